/- Part 12 of what stands below the statement. -/
import Derived.Test.YtmipjomnjkmdbaaGreatQ11
open Go Go.Proofs Go.X
namespace Go.Proofs.YtmipjomnjkmdbaaGreat
set_option linter.unusedVariables false
set_option maxRecDepth 100000
abbrev uc11:=(Bool × (List Bool × List Bool))
abbrev uc12:=(Bool × (List Int × List Int))
abbrev uc5:=(List uc12 × (List uc12 × (uc12 × (uc12 × (uc12 × (List Int × (List Int × List Int)))))))
abbrev uc2:=(Int × (Int × (Int × (Int × (List uc5 × List Int)))))
abbrev uc1:=(uc2 × Int)
abbrev uc3:=(uc5 × Int)
abbrev uc4:=(List uc5)
abbrev uc10:=(List uc12)
abbrev uc8:=(List uc10)
abbrev uc16:=(List Int × Int)
abbrev uc13:=(List uc16)
abbrev uc17:=(List Bool)
abbrev uc9:=(List uc17 × (List Bool × List Int))
abbrev uc14:=(List uc17)
abbrev uc18:=(List Int)
abbrev uc7:=(List Int × (List uc18 × (Int × (Int × (Int × (Int × (Int × (Int × Int))))))))
abbrev uc0:=(uc13 × uc18 × uc7 × uc2 × Int × Int × uc2 × uc18 × uc9 × uc10)
abbrev uc6:=(uc7 × (List uc16 × (List Int × (List Bool × List uc10))))
abbrev uc15:=(List uc18)
abbrev uc19:=uc13 × uc18 × uc7 × uc2 × Int × Int × uc2 × uc18 × uc9 × uc10 × uc14 × uc17 × uc5 × uc17 × uc17 × Int
abbrev uc20:=uc13 × uc18 × uc7 × uc2 × Int × Int × uc2 × uc18 × uc9 × uc10 × uc14 × uc17 × uc5 × Int × Bool
abbrev uc21:=uc13 × uc18 × uc7 × uc2 × Int × Int × uc2 × uc18 × uc9 × uc10
abbrev uc22:=Int × Int × uc7 × uc18 × uc15 × Int × Int × Int
noncomputable def d87 (p0:List uc17) (p1:List Int) (p2:Int) (p3:Bool):Option uc18 :=
 (zaa (β:=uc18) (fun ((t0,t1,t2,t3,t9,t10):uc14 × uc18 × Int × Bool × uc18 × Int) =>
   bif (decide (t10 < (t0.length:Int))) then
    letJ (fun ((t0_5,t1_5,t2_5,t3_5,t9_5,t10_5):uc14 × uc18 × Int × Bool × uc18 × Int) =>
      some (Sum.inl (t0_5,t1_5,t2_5,t3_5,t9_5,(w (t10_5+1))))) fun j__2 =>
    bif (decide (0≤t10) && decide (t10 < (t1.length:Int))) then
     (zaa (β:=(uc14 × uc18 × Int × Bool × uc18 × Int × Bool)) (fun ((t0_1,t1_1,t2_1,t3_1,t9_1,t10_1,t11,t12):uc14 × uc18 × Int × Bool × uc18 × Int × Bool × Int) =>
       bif (decide (t12 < (t0_1.length:Int))) then
        letJ (fun ((t0_3,t1_3,t2_3,t3_3,t9_3,t10_3,t11_2,t12_2):uc14 × uc18 × Int × Bool × uc18 × Int × Bool × Int) =>
          some (Sum.inl (t0_3,t1_3,t2_3,t3_3,t9_3,t10_3,t11_2,(w (t12_2+1))))) fun j__1 =>
        bif (decide (0≤t12) && decide (t12 < (t0_1.length:Int))) then
         bif (decide (0≤t10_1) && decide (t10_1 < (t0_1.length:Int))) then
          (d80 (List.getD t0_1 (Int.toNat t12) []) (List.getD t0_1 (Int.toNat t10_1) [])).bind fun r =>
          letJ (fun ((t0_2,t1_2,t2_2,t3_2,t9_2,t10_2,t11_1,t12_1,t61):uc14 × uc18 × Int × Bool × uc18 × Int × Bool × Int × Bool) =>
            bif t61 then
             j__1 (t0_2,t1_2,t2_2,t3_2,t9_2,t10_2,false,t12_1)
            else
             j__1 (t0_2,t1_2,t2_2,t3_2,t9_2,t10_2,t11_1,t12_1)) fun j_ =>
          bif (decide (0≤t12) && decide (t12 < (t1_1.length:Int))) then
           bif (decide ((List.getD t1_1 (Int.toNat t12) 0)=t2_1)) then
            bif t3_1 then
             bif !(decide (0 < r)) then
              bif !t3_1 then
               j_ (t0_1,t1_1,t2_1,t3_1,t9_1,t10_1,t11,t12,(decide (r < 0)))
              else
               j_ (t0_1,t1_1,t2_1,t3_1,t9_1,t10_1,t11,t12,false)
             else
              j_ (t0_1,t1_1,t2_1,t3_1,t9_1,t10_1,t11,t12,true)
            else
             bif !t3_1 then
              j_ (t0_1,t1_1,t2_1,t3_1,t9_1,t10_1,t11,t12,(decide (r < 0)))
             else
              j_ (t0_1,t1_1,t2_1,t3_1,t9_1,t10_1,t11,t12,false)
           else
            j_ (t0_1,t1_1,t2_1,t3_1,t9_1,t10_1,t11,t12,false)
          else none
         else none
        else none
       else
        some (Sum.inr (t0_1,t1_1,t2_1,t3_1,t9_1,t10_1,t11))) (t0,t1,t2,t3,t9,t10,(decide ((List.getD t1 (Int.toNat t10) 0)=t2)),0)).bind fun ((t0_4,t1_4,t2_4,t3_4,t9_4,t10_4,t11_3):uc14 × uc18 × Int × Bool × uc18 × Int × Bool) =>
     bif t11_3 then
      bif (decide ((t9_4.length:Int)+(([t10_4]:List Int).length:Int)≤LIM)) then
       j__2 (t0_4,t1_4,t2_4,t3_4,(t9_4++[t10_4]),t10_4)
      else none
     else
      j__2 (t0_4,t1_4,t2_4,t3_4,t9_4,t10_4)
    else none
   else
    some (Sum.inr t9)) (p0,p1,p2,p3,[],0)).bind fun (t9_6:List Int) =>
 some t9_6
noncomputable def d89 (rounds:List uc5):Option (uc8 × uc4) :=
 (zaa (β:=(uc4 × uc8)) (fun ((rounds_1,out,i):uc4 × uc8 × Int) =>
   bif (decide (i < (rounds_1.length:Int))) then
    bif (decide (0≤i) && decide (i < (rounds_1.length:Int))) then
     bif (decide ((out.length:Int)+(([(List.getD rounds_1 (Int.toNat i) ([],[],(false,[],[]),(false,[],[]),(false,[],[]),[],[],[])).1]:List uc10).length:Int)≤LIM)) then
      some (Sum.inl (rounds_1,(out++[(List.getD rounds_1 (Int.toNat i) ([],[],(false,[],[]),(false,[],[]),(false,[],[]),[],[],[])).1]),(w (i+1))))
     else none
    else none
   else
    some (Sum.inr (rounds_1,out))) (rounds,[],0)).bind fun ((rounds_2,out_1):uc4 × uc8) =>
 some (out_1,rounds_2)
noncomputable def d147 (rule:Int) (tied:List Int) (lots:List Int):Option Bool :=
 letJ (fun ((tied_1,t42):uc18 × Bool) =>
   bif t42 then
    some false
   else
    (zaa (β:=Unit ⊕ Bool) (fun ((tied_2,i):uc18 × Int) =>
      bif (decide (i < (tied_2.length:Int))) then
       bif (decide (0≤(w (i - 1))) && decide ((w (i - 1)) < (tied_2.length:Int))) then
        bif (decide (0≤i) && decide (i < (tied_2.length:Int))) then
         bif (decide ((List.getD tied_2 (Int.toNat i) 0)≤(List.getD tied_2 (Int.toNat (w (i - 1))) 0))) then
          some (Sum.inr (Sum.inr false))
         else
          some (Sum.inl (tied_2,(w (i+1))))
        else none
       else none
      else
       some (Sum.inr (Sum.inl ()))) (tied_1,1)).bind fun
    | Sum.inl _ =>
     some true
    | Sum.inr t6 =>
     some t6) fun j_ =>
 bif !(decide (rule < 1)) then
  bif !(decide (3 < rule)) then
   bif !(decide ((lots.length:Int) < 1)) then
    bif !(decide (7 < (lots.length:Int))) then
     (d71 (lots.length:Int) lots).bind fun r =>
     bif !(!r) then
      bif !(decide ((tied.length:Int)=0)) then
       (d32 (lots.length:Int) tied).bind fun r_1 =>
       j_ (tied,!r_1)
      else
       j_ (tied,true)
     else
      j_ (tied,true)
    else
     j_ (tied,true)
   else
    j_ (tied,true)
  else
   j_ (tied,true)
 else
  j_ (tied,true)
noncomputable def d183 (votes:List uc12) (c:Int):Option uc12 :=
 bif (decide (c < (votes.length:Int))) then
  bif (decide (0≤c) && decide (c < (votes.length:Int))) then
   some (List.getD votes (Int.toNat c) (false,[],[]))
  else none
 else
  (d39 0).bind fun r =>
  some r
noncomputable def d211 (a:uc12):Option Bool :=
 bif !a.1 then
  bif (decide ((a.2.1.length:Int)≤1)) then
   bif (decide ((a.2.2.length:Int)=1)) then
    bif (decide (0≤0) && decide (0 < (a.2.2.length:Int))) then
     some (decide (0 < (List.getD a.2.2 0 0)))
    else none
   else
    some false
  else
   some false
 else
  some false
noncomputable def d212 (a:uc12) (b:uc12):Option Int :=
 bif (decide ((a.2.1.length:Int)=0)) then
  some 0
 else
  bif (decide (0≤0) && decide (0 < (a.2.1.length:Int))) then
   bif (decide (0≤0) && decide (0 < (b.2.2.length:Int))) then
    some (wu64 ((wu64 (List.getD a.2.1 0 0)) * (wu64 (List.getD b.2.2 0 0))))
   else none
  else none
noncomputable def d182 (a:uc12) (b:uc12):Option Int :=
 letJ (fun ((a_1,b_1,t14):uc12 × uc12 × Bool) =>
   bif t14 then
    (d34 a_1).bind fun r_2 =>
    (d34 b_1).bind fun r_3 =>
    (d36 r_2 r_3).bind fun r_4 =>
    some r_4
   else
    (d212 a_1 b_1).bind fun r_5 =>
    (d212 b_1 a_1).bind fun r_6 =>
    bif (decide (r_5 < r_6)) then
     some (-1)
    else
     bif (decide (r_6 < r_5)) then
      some 1
     else
      some 0) fun j_ =>
 (d211 a).bind fun r =>
 bif !(!r) then
  (d211 b).bind fun r_1 =>
  j_ (a,b,!r_1)
 else
  j_ (a,b,true)
noncomputable def d148 (votes:List uc12) (l:List Int) (least:Bool):Option uc18 :=
 (zaa (β:=uc18) (fun ((votes_1,l_1,least_1,out,i):uc10 × uc18 × Bool × uc18 × Int) =>
   bif (decide (i < (l_1.length:Int))) then
    letJ (fun ((votes_6,l_6,least_6,out_5,i_5):uc10 × uc18 × Bool × uc18 × Int) =>
      some (Sum.inl (votes_6,l_6,least_6,out_5,(w (i_5+1))))) fun j__2 =>
    (zaa (β:=(uc10 × uc18 × Bool × uc18 × Int × Bool)) (fun ((votes_2,l_2,least_2,out_1,i_1,best,k):uc10 × uc18 × Bool × uc18 × Int × Bool × Int) =>
      bif (decide (k < (l_2.length:Int))) then
       letJ (fun ((votes_4,l_4,least_4,out_3,i_3,best_2,k_2):uc10 × uc18 × Bool × uc18 × Int × Bool × Int) =>
         some (Sum.inl (votes_4,l_4,least_4,out_3,i_3,best_2,(w (k_2+1))))) fun j__1 =>
       bif (decide (0≤k) && decide (k < (l_2.length:Int))) then
        (d183 votes_2 (List.getD l_2 (Int.toNat k) 0)).bind fun r =>
        bif (decide (0≤i_1) && decide (i_1 < (l_2.length:Int))) then
         (d183 votes_2 (List.getD l_2 (Int.toNat i_1) 0)).bind fun r_1 =>
         (d182 r r_1).bind fun r_2 =>
         letJ (fun ((votes_3,l_3,least_3,out_2,i_2,best_1,k_1,t49):uc10 × uc18 × Bool × uc18 × Int × Bool × Int × Bool) =>
           bif t49 then
            j__1 (votes_3,l_3,least_3,out_2,i_2,false,k_1)
           else
            j__1 (votes_3,l_3,least_3,out_2,i_2,best_1,k_1)) fun j_ =>
         bif least_2 then
          bif !(decide (r_2 < 0)) then
           bif !least_2 then
            j_ (votes_2,l_2,least_2,out_1,i_1,best,k,(decide (0 < r_2)))
           else
            j_ (votes_2,l_2,least_2,out_1,i_1,best,k,false)
          else
           j_ (votes_2,l_2,least_2,out_1,i_1,best,k,true)
         else
          bif !least_2 then
           j_ (votes_2,l_2,least_2,out_1,i_1,best,k,(decide (0 < r_2)))
          else
           j_ (votes_2,l_2,least_2,out_1,i_1,best,k,false)
        else none
       else none
      else
       some (Sum.inr (votes_2,l_2,least_2,out_1,i_1,best))) (votes_1,l_1,least_1,out,i,true,0)).bind fun ((votes_5,l_5,least_5,out_4,i_4,best_3):uc10 × uc18 × Bool × uc18 × Int × Bool) =>
    bif best_3 then
     bif (decide (0≤i_4) && decide (i_4 < (l_5.length:Int))) then
      bif (decide ((out_4.length:Int)+(([(List.getD l_5 (Int.toNat i_4) 0)]:List Int).length:Int)≤LIM)) then
       j__2 (votes_5,l_5,least_5,(out_4++[(List.getD l_5 (Int.toNat i_4) 0)]),i_4)
      else none
     else none
    else
     j__2 (votes_5,l_5,least_5,out_4,i_4)
   else
    some (Sum.inr out)) (votes,l,least,[],0)).bind fun (out_6:List Int) =>
 some out_6
noncomputable def d149 (p:List Int) (x:Int):Option Int :=
 (zaa (β:=uc18 ⊕ Int) (fun ((p_1,x_1,i):uc18 × Int × Int) =>
   bif (decide (i < (p_1.length:Int))) then
    bif (decide (0≤i) && decide (i < (p_1.length:Int))) then
     bif (decide ((List.getD p_1 (Int.toNat i) 0)=x_1)) then
      some (Sum.inr (Sum.inr i))
     else
      some (Sum.inl (p_1,x_1,(w (i+1))))
    else none
   else
    some (Sum.inr (Sum.inl p_1))) (p,x,0)).bind fun
 | Sum.inl p_2 =>
  some (p_2.length:Int)
 | Sum.inr t4 =>
  some t4
noncomputable def d88 (p0:Int) (p1:List uc10) (p2:List Int) (p3:List Int) (p4:Bool):Option (Int × Bool) :=
 (d147 p0 p2 p3).bind fun r =>
 bif !r then
  some ((-1),false)
 else
  (zaa (β:=(uc18 × Bool × uc18)) (fun ((t0,t1,t3,t4,t12,t13):Int × uc8 × uc18 × Bool × uc18 × Int) =>
    letJ (fun ((t0_1,t1_1,t3_1,t4_1,t12_1,t13_1,t30):Int × uc8 × uc18 × Bool × uc18 × Int × Bool) =>
      bif t30 then
       letJ (fun ((t0_3,t1_3,t3_3,t4_3,t12_3,t13_3):Int × uc8 × uc18 × Bool × uc18 × Int) =>
         some (Sum.inl (t0_3,t1_3,t3_3,t4_3,t12_3,(w (t13_3+1))))) fun j__2 =>
       letJ (fun ((t0_2,t1_2,t3_2,t4_2,t12_2,t13_2,t14):Int × uc8 × uc18 × Bool × uc18 × Int × Int) =>
         bif (decide (1 < (t12_2.length:Int))) then
          bif (decide (0≤t14) && decide (t14 < (t1_2.length:Int))) then
           (d148 (List.getD t1_2 (Int.toNat t14) []) t12_2 t4_2).bind fun r_1 =>
           j__2 (t0_2,t1_2,t3_2,t4_2,r_1,t13_2)
          else none
         else
          j__2 (t0_2,t1_2,t3_2,t4_2,t12_2,t13_2)) fun j__1 =>
       bif (decide (t0_1=1)) then
        j__1 (t0_1,t1_1,t3_1,t4_1,t12_1,t13_1,(w ((w ((t1_1.length:Int) - 1)) - t13_1)))
       else
        j__1 (t0_1,t1_1,t3_1,t4_1,t12_1,t13_1,t13_1)
      else
       some (Sum.inr (t3_1,t4_1,t12_1))) fun j_ =>
    bif (decide (t13 < (t1.length:Int))) then
     j_ (t0,t1,t3,t4,t12,t13,!(decide (t0=3)))
    else
     j_ (t0,t1,t3,t4,t12,t13,false)) (p0,p1,p3,p4,p2,0)).bind fun ((t3_4,t4_4,t12_4):uc18 × Bool × uc18) =>
  bif (decide ((t12_4.length:Int)=1)) then
   bif (decide (0≤0) && decide (0 < (t12_4.length:Int))) then
    some ((List.getD t12_4 0 0),false)
   else none
  else
   bif (decide (0≤0) && decide (0 < (t12_4.length:Int))) then
    (zaa (β:=Int) (fun ((t3_5,t4_5,t12_5,t15,t16):uc18 × Bool × uc18 × Int × Int) =>
      bif (decide (t16 < (t12_5.length:Int))) then
       letJ (fun ((t3_6,t4_6,t12_6,t15_1,t16_1):uc18 × Bool × uc18 × Int × Int) =>
         some (Sum.inl (t3_6,t4_6,t12_6,t15_1,(w (t16_1+1))))) fun j__3 =>
       bif (decide (0≤t16) && decide (t16 < (t12_5.length:Int))) then
        (d149 t3_5 (List.getD t12_5 (Int.toNat t16) 0)).bind fun r_2 =>
        (d149 t3_5 t15).bind fun r_3 =>
        bif ((decide (r_3 < r_2)) == t4_5) then
         bif (decide (0≤t16) && decide (t16 < (t12_5.length:Int))) then
          j__3 (t3_5,t4_5,t12_5,(List.getD t12_5 (Int.toNat t16) 0),t16)
         else none
        else
         j__3 (t3_5,t4_5,t12_5,t15,t16)
       else none
      else
       some (Sum.inr t15)) (t3_4,t4_4,t12_4,(List.getD t12_4 0 0),1)).bind fun (t15_2:Int) =>
    some (t15_2,true)
   else none
noncomputable def d150 (p:List Int) (state:List Int) (k:Int):Option Int :=
 (zaa (β:=Int) (fun ((p_1,state_1,k_1):uc18 × uc18 × Int) =>
   letJ (fun ((p_2,state_2,k_2,t20):uc18 × uc18 × Int × Bool) =>
     bif t20 then
      some (Sum.inl (p_2,state_2,(w (k_2+1))))
     else
      some (Sum.inr k_2)) fun j_ =>
   bif (decide (k_1 < (p_1.length:Int))) then
    bif (decide (0≤k_1) && decide (k_1 < (p_1.length:Int))) then
     bif (decide (0≤(List.getD p_1 (Int.toNat k_1) 0)) && decide ((List.getD p_1 (Int.toNat k_1) 0) < (state_1.length:Int))) then
      j_ (p_1,state_1,k_1,!(decide ((List.getD state_1 (Int.toNat (List.getD p_1 (Int.toNat k_1) 0)) 0)=0)))
     else none
    else none
   else
    j_ (p_1,state_1,k_1,false)) (p,state,k)).bind fun (k_3:Int) =>
 some k_3
noncomputable def d90 (p0:uc9) (p1:List uc16) (p2:List Int) (p3:Int) (p4:List Bool) (p5:List Bool):Option uc9 :=
 (d77 p0.2.1 p5).bind fun r =>
 (zaa (β:=(uc9 × uc9)) (fun ((t1,t2,t3,t4,t5,t6,t12,t13,t14):uc13 × uc18 × Int × uc17 × uc17 × uc9 × uc9 × uc9 × Int) =>
   bif (decide (t14 < (t1.length:Int))) then
    letJ (fun ((t1_2,t2_2,t3_2,t4_2,t5_2,t6_2,t12_2,t13_2,t14_2):uc13 × uc18 × Int × uc17 × uc17 × uc9 × uc9 × uc9 × Int) =>
      some (Sum.inl (t1_2,t2_2,t3_2,t4_2,t5_2,t6_2,t12_2,t13_2,(w (t14_2+1))))) fun j__1 =>
    bif (decide (0≤t14) && decide (t14 < (t1.length:Int))) then
     letJ (fun ((t1_1,t2_1,t3_1,t4_1,t5_1,t6_1,t12_1,t13_1,t14_1,t15,t51):uc13 × uc18 × Int × uc17 × uc17 × uc9 × uc9 × uc9 × Int × uc18 × Bool) =>
       bif t51 then
        bif (decide (0≤t14_1) && decide (t14_1 < (t6_1.1.length:Int))) then
         (d77 (List.getD t6_1.1 (Int.toNat t14_1) []) t4_1).bind fun r_1 =>
         bif (decide ((t13_1.1.length:Int)+(([r_1]:List uc17).length:Int)≤LIM)) then
          bif (decide (0≤t14_1) && decide (t14_1 < (t6_1.2.2.length:Int))) then
           (d150 t15 t2_1 (w ((List.getD t6_1.2.2 (Int.toNat t14_1) 0)+1))).bind fun r_2 =>
           bif (decide ((t13_1.2.2.length:Int)+(([r_2]:List Int).length:Int)≤LIM)) then
            j__1 (t1_1,t2_1,t3_1,t4_1,t5_1,t6_1,t12_1,((t13_1.1++[r_1]),t13_1.2.1,(t13_1.2.2++[r_2])),t14_1)
           else none
          else none
         else none
        else none
       else
        bif (decide (0≤t14_1) && decide (t14_1 < (t6_1.1.length:Int))) then
         (d77 (List.getD t6_1.1 (Int.toNat t14_1) []) t5_1).bind fun r_3 =>
         bif (decide ((t13_1.1.length:Int)+(([r_3]:List uc17).length:Int)≤LIM)) then
          bif (decide (0≤t14_1) && decide (t14_1 < (t6_1.2.2.length:Int))) then
           bif (decide ((t13_1.2.2.length:Int)+(([(List.getD t6_1.2.2 (Int.toNat t14_1) 0)]:List Int).length:Int)≤LIM)) then
            j__1 (t1_1,t2_1,t3_1,t4_1,t5_1,t6_1,t12_1,((t13_1.1++[r_3]),t13_1.2.1,(t13_1.2.2++[(List.getD t6_1.2.2 (Int.toNat t14_1) 0)])),t14_1)
           else none
          else none
         else none
        else none) fun j_ =>
     bif (decide (0≤t14) && decide (t14 < (t6.2.2.length:Int))) then
      bif (decide ((List.getD t6.2.2 (Int.toNat t14) 0) < (((List.getD t1 (Int.toNat t14) ([],0)).1).length:Int))) then
       bif (decide (0≤t14) && decide (t14 < (t6.2.2.length:Int))) then
        bif (decide (0≤(List.getD t6.2.2 (Int.toNat t14) 0)) && decide ((List.getD t6.2.2 (Int.toNat t14) 0) < (((List.getD t1 (Int.toNat t14) ([],0)).1).length:Int))) then
         j_ (t1,t2,t3,t4,t5,t6,t12,t13,t14,(List.getD t1 (Int.toNat t14) ([],0)).1,(decide ((List.getD ((List.getD t1 (Int.toNat t14) ([],0)).1) (Int.toNat (List.getD t6.2.2 (Int.toNat t14) 0)) 0)=t3)))
        else none
       else none
      else
       j_ (t1,t2,t3,t4,t5,t6,t12,t13,t14,(List.getD t1 (Int.toNat t14) ([],0)).1,false)
     else none
    else none
   else
    some (Sum.inr (t12,t13))) (p1,p2,p3,p4,p5,p0,([],[],[]),([],r,[]),0)).bind fun ((t12_3,t13_3):uc9 × uc9) =>
 some t13_3
noncomputable def d28 (p0:uc7) (p1:List uc16) (p2:List Int):Option uc1 :=
 (d23 3 p0 p1 p2).bind fun r =>
 bif !(decide (r=0)) then
  some ((0,0,0,0,[],[]),r)
 else
  (d74 p1).bind fun r_1 =>
  (d73 r_1 p0.2.2.2.1).bind fun r_2 =>
  bif (decide ((p0.2.1.length:Int)=(p0.2.1.length:Int)) && (decide (0≤(p0.2.1.length:Int)) && decide ((p0.2.1.length:Int)≤LIM))) then
   (d75 1).bind fun r_3 =>
   (zaa (β:=uc0) (fun ((t1,t2,t3,t6,t9,t10,t11,t12,t13,t14,t15):uc13 × uc18 × uc7 × uc2 × Int × Int × uc2 × uc18 × uc9 × uc10 × Int) =>
     bif (decide (t15 < t9)) then
      (d39 1).bind fun r_4 =>
      bif (decide ((t14.length:Int)+(([r_4]:List uc12).length:Int)≤LIM)) then
       some (Sum.inl (t1,t2,t3,t6,t9,t10,t11,t12,t13,(t14++[r_4]),(w (t15+1))))
      else none
     else
      some (Sum.inr (t1,t2,t3,t6,t9,t10,t11,t12,t13,t14))) (p1,p2,p0,(0,0,0,0,[],[]),(p0.2.1.length:Int),r_2,(3,p0.2.2.2.1,0,(p0.2.1.length:Int),[],[]),(List.replicate (Int.toNat (p0.2.1.length:Int)) 0),([],r_3,[]),[],0)).bind fun ((t1_1,t2_1,t3_1,t6_1,t9_1,t10_1,t11_1,t12_1,t13_1,t14_1):uc21) =>
   (zaa (β:=uc0) (fun ((t1_2,t2_2,t3_2,t6_2,t9_2,t10_2,t11_2,t12_2,t13_2,t14_2,t16):uc13 × uc18 × uc7 × uc2 × Int × Int × uc2 × uc18 × uc9 × uc10 × Int) =>
     bif (decide (t16 < (t1_2.length:Int))) then
      (d75 1).bind fun r_5 =>
      bif (decide ((t13_2.1.length:Int)+(([r_5]:List uc17).length:Int)≤LIM)) then
       bif (decide ((t13_2.2.2.length:Int)+(([0]:List Int).length:Int)≤LIM)) then
        some (Sum.inl (t1_2,t2_2,t3_2,t6_2,t9_2,t10_2,t11_2,t12_2,((t13_2.1++[r_5]),t13_2.2.1,(t13_2.2.2++[0])),t14_2,(w (t16+1))))
       else none
      else none
     else
      some (Sum.inr (t1_2,t2_2,t3_2,t6_2,t9_2,t10_2,t11_2,t12_2,t13_2,t14_2))) (t1_1,t2_1,t3_1,t6_1,t9_1,t10_1,t11_1,t12_1,t13_1,t14_1,0)).bind fun ((t1_3,t2_3,t3_3,t6_3,t9_3,t10_3,t11_3,t12_3,t13_3,t14_3):uc21) =>
   (zaa (β:=uc1) (fun ((t1_4,t2_4,t3_4,t6_4,t9_4,t10_4,t11_4,t12_4,t13_4,t14_4):uc21) =>
     (d76 t13_4 t1_4 t12_4 t10_4).bind fun r_6 =>
     (d75 t10_4).bind fun r_7 =>
     (d77 r_7 t13_4.2.1).bind fun r_8 =>
     (d39 t10_4).bind fun r_9 =>
     bif (decide ((([]:List uc12).length:Int)+(t14_4.length:Int)≤LIM)) then
      (d75 0).bind fun r_10 =>
      (d75 0).bind fun r_11 =>
      (zaa (β:=(uc13 × uc18 × uc7 × uc2 × Int × Int × uc2 × uc18 × uc9 × uc10 × uc14 × uc17 × uc5 × uc17 × uc17)) (fun ((t1_5,t2_5,t3_5,t6_5,t9_5,t10_5,t11_5,t12_5,t13_5,t14_5,t17,t18,t19,t20,t21,t22):uc19) =>
        bif (decide (t22 < t9_5)) then
         letJ (fun ((t1_8,t2_8,t3_8,t6_8,t9_8,t10_8,t11_8,t12_8,t13_8,t14_8,t17_3,t18_3,t19_3,t20_3,t21_3,t22_3):uc19) =>
           some (Sum.inl (t1_8,t2_8,t3_8,t6_8,t9_8,t10_8,t11_8,t12_8,t13_8,t14_8,t17_3,t18_3,t19_3,t20_3,t21_3,(w (t22_3+1))))) fun j__2 =>
         bif (decide (0≤t22) && decide (t22 < (t17.length:Int))) then
          (d78 (List.getD t17 (Int.toNat t22) []) t13_5.2.1).bind fun r_12 =>
          bif (decide ((t19.1.length:Int)+(([r_12]:List uc12).length:Int)≤LIM)) then
           bif (decide (0≤t22) && decide (t22 < (t17.length:Int))) then
            (d79 t20 (List.getD t17 (Int.toNat t22) [])).bind fun r_13 =>
            letJ (fun ((t1_7,t2_7,t3_7,t6_7,t9_7,t10_7,t11_7,t12_7,t13_7,t14_7,t17_2,t18_2,t19_2,t20_2,t21_2,t22_2):uc19) =>
              bif (decide (0≤t22_2) && decide (t22_2 < (t12_7.length:Int))) then
               bif (decide ((List.getD t12_7 (Int.toNat t22_2) 0)=1)) then
                bif (decide (0≤t22_2) && decide (t22_2 < (t17_2.length:Int))) then
                 (d82 (List.getD t17_2 (Int.toNat t22_2) []) t18_2).bind fun r_16 =>
                 (d79 t21_2 r_16).bind fun r_17 =>
                 j__2 (t1_7,t2_7,t3_7,t6_7,t9_7,t10_7,t11_7,t12_7,t13_7,t14_7,t17_2,t18_2,t19_2,t20_2,r_17,t22_2)
                else none
               else
                j__2 (t1_7,t2_7,t3_7,t6_7,t9_7,t10_7,t11_7,t12_7,t13_7,t14_7,t17_2,t18_2,t19_2,t20_2,t21_2,t22_2)
              else none) fun j__1 =>
            letJ (fun ((t1_6,t2_6,t3_6,t6_6,t9_6,t10_6,t11_6,t12_6,t13_6,t14_6,t17_1,t18_1,t19_1,t20_1,t21_1,t22_1,t132):uc13 × uc18 × uc7 × uc2 × Int × Int × uc2 × uc18 × uc9 × uc10 × uc14 × uc17 × uc5 × uc17 × uc17 × Int × Bool) =>
              bif t132 then
               bif (decide (0≤t22_1) && decide (t22_1 < (t12_6.length:Int))) then
                (d81 t19_1.2.2.2.2.2.1 t22_1).bind fun r_15 =>
                j__1 (t1_6,t2_6,t3_6,t6_6,t9_6,t10_6,t11_6,(List.set t12_6 (Int.toNat t22_1) 1),t13_6,t14_6,t17_1,t18_1,(t19_1.1,t19_1.2.1,t19_1.2.2.1,t19_1.2.2.2.1,t19_1.2.2.2.2.1,r_15,t19_1.2.2.2.2.2.2),t20_1,t21_1,t22_1)
               else none
              else
               j__1 (t1_6,t2_6,t3_6,t6_6,t9_6,t10_6,t11_6,t12_6,t13_6,t14_6,t17_1,t18_1,t19_1,t20_1,t21_1,t22_1)) fun j_ =>
            bif (decide (0≤t22) && decide (t22 < (t12_5.length:Int))) then
             bif (decide ((List.getD t12_5 (Int.toNat t22) 0)=0)) then
              bif (decide (0≤t22) && decide (t22 < (t17.length:Int))) then
               (d80 (List.getD t17 (Int.toNat t22) []) t18).bind fun r_14 =>
               j_ (t1_5,t2_5,t3_5,t6_5,t9_5,t10_5,t11_5,t12_5,t13_5,t14_5,t17,t18,((t19.1++[r_12]),t19.2),r_13,t21,t22,(decide (0≤r_14)))
              else none
             else
              j_ (t1_5,t2_5,t3_5,t6_5,t9_5,t10_5,t11_5,t12_5,t13_5,t14_5,t17,t18,((t19.1++[r_12]),t19.2),r_13,t21,t22,false)
            else none
           else none
          else none
         else none
        else
         some (Sum.inr (t1_5,t2_5,t3_5,t6_5,t9_5,t10_5,t11_5,t12_5,t13_5,t14_5,t17,t18,t19,t20,t21))) (t1_4,t2_4,t3_4,t6_4,t9_4,t10_4,t11_4,t12_4,t13_4,t14_4,r_6,r_8,([],t14_4,r_9,(false,[],[]),(false,[],[]),[],[],[]),r_10,r_11,0)).bind fun ((t1_9,t2_9,t3_9,t6_9,t9_9,t10_9,t11_9,t12_9,t13_9,t14_9,t17_4,t18_4,t19_4,t20_4,t21_4):uc13 × uc18 × uc7 × uc2 × Int × Int × uc2 × uc18 × uc9 × uc10 × uc14 × uc17 × uc5 × uc17 × uc17) =>
      (d83 t1_9).bind fun r_18 =>
      (d75 r_18).bind fun r_19 =>
      (d77 r_19 t13_9.2.1).bind fun r_20 =>
      (d82 r_20 t20_4).bind fun r_21 =>
      (d78 r_21 t13_9.2.1).bind fun r_22 =>
      (d78 t21_4 t13_9.2.1).bind fun r_23 =>
      (d84 t12_9 1).bind fun r_24 =>
      (d84 t12_9 2).bind fun r_25 =>
      letJ (fun ((t1_10,t2_10,t3_10,t6_10,t9_10,t10_10,t11_10,t12_10,t13_10,t14_10,t17_5,t18_5,t19_5,t23,t188):uc20) =>
        bif t188 then
         letJ (fun ((t6_11,t11_11,t19_6):uc2 × uc2 × uc5) =>
           bif (decide ((t11_11.2.2.2.2.1.length:Int)+(([t19_6]:List uc5).length:Int)≤LIM)) then
            (d86 (t11_11.1,t11_11.2.1,t11_11.2.2.1,t11_11.2.2.2.1,(t11_11.2.2.2.2.1++[t19_6]),t11_11.2.2.2.2.2)).bind fun r_28 =>
            some (Sum.inr ((t11_11.1,t11_11.2.1,t11_11.2.2.1,t11_11.2.2.2.1,(t11_11.2.2.2.2.1++[t19_6]),r_28),0))
           else none) fun j__4 =>
         bif (decide (t23 < t3_10.2.2.2.1)) then
          (d85 t19_5.2.2.2.2.2.1 t12_10).bind fun r_27 =>
          j__4 (t6_10,t11_10,(t19_5.1,t19_5.2.1,t19_5.2.2.1,t19_5.2.2.2.1,t19_5.2.2.2.2.1,r_27.1,t19_5.2.2.2.2.2.2))
         else
          j__4 (t6_10,t11_10,t19_5)
        else
         letJ (fun ((t1_11,t2_11,t3_11,t6_12,t9_11,t10_11,t11_12,t12_11,t13_11,t14_11,t17_6,t18_6,t19_7,t24,t25):uc20) =>
           (d87 t17_6 t12_11 t24 t25).bind fun r_30 =>
           bif (decide (0≤0) && decide (0 < (r_30.length:Int))) then
            letJ (fun ((t1_12,t2_12,t3_12,t6_13,t9_12,t10_12,t11_13,t12_12,t13_12,t14_12,t17_7,t18_7,t19_8,t25_1,t27):uc13 × uc18 × uc7 × uc2 × Int × Int × uc2 × uc18 × uc9 × uc10 × uc14 × uc17 × uc5 × Bool × Int) =>
              letJ (fun ((t1_13,t2_13,t3_13,t6_14,t9_13,t10_13,t11_14,t12_13,t13_13,t14_13,t19_9):uc13 × uc18 × uc7 × uc2 × Int × Int × uc2 × uc18 × uc9 × uc10 × uc5) =>
                bif (decide ((t11_14.2.2.2.2.1.length:Int)+(([t19_9]:List uc5).length:Int)≤LIM)) then
                 some (Sum.inl (t1_13,t2_13,t3_13,t6_14,t9_13,t10_13,(t11_14.1,t11_14.2.1,t11_14.2.2.1,t11_14.2.2.2.1,(t11_14.2.2.2.2.1++[t19_9]),t11_14.2.2.2.2.2),t12_13,t13_13,t14_13))
                else none) fun j__7 =>
              bif t25_1 then
               bif (decide (0≤t27) && decide (t27 < (t17_7.length:Int))) then
                (d82 (List.getD t17_7 (Int.toNat t27) []) t18_7).bind fun r_33 =>
                bif (decide (0≤t27) && decide (t27 < (t17_7.length:Int))) then
                 (d78 r_33 (List.getD t17_7 (Int.toNat t27) [])).bind fun r_34 =>
                 bif (decide (0≤t27) && decide (t27 < (t12_12.length:Int))) then
                  bif (decide (0≤t27) && decide (t27 < (t14_12.length:Int))) then
                   bif (decide (0≤t27) && decide (t27 < (t17_7.length:Int))) then
                    (d90 t13_12 t1_12 (List.set t12_12 (Int.toNat t27) 2) t27 r_33 (List.getD t17_7 (Int.toNat t27) [])).bind fun r_35 =>
                    j__7 (t1_12,t2_12,t3_12,t6_13,t9_12,t10_12,t11_13,(List.set t12_12 (Int.toNat t27) 2),r_35,(List.set t14_12 (Int.toNat t27) r_34),t19_8)
                   else none
                  else none
                 else none
                else none
               else none
              else
               (d39 0).bind fun r_36 =>
               bif (decide (0≤t27) && decide (t27 < (t12_12.length:Int))) then
                bif (decide (0≤t27) && decide (t27 < (t14_12.length:Int))) then
                 (d75 1).bind fun r_37 =>
                 (d75 1).bind fun r_38 =>
                 (d90 t13_12 t1_12 (List.set t12_12 (Int.toNat t27) 3) t27 r_37 r_38).bind fun r_39 =>
                 j__7 (t1_12,t2_12,t3_12,t6_13,t9_12,t10_12,t11_13,(List.set t12_12 (Int.toNat t27) 3),r_39,(List.set t14_12 (Int.toNat t27) r_36),(t19_8.1,t19_8.2.1,t19_8.2.2.1,t19_8.2.2.2.1,t19_8.2.2.2.2.1,t19_8.2.2.2.2.2.1,[t27],t19_8.2.2.2.2.2.2.2))
                else none
               else none) fun j__6 =>
            bif (decide (1 < (r_30.length:Int))) then
             (d89 t11_12.2.2.2.2.1).bind fun r_31 =>
             (d88 t3_11.2.2.2.2.2.2.1 r_31.1 r_30 t2_11 (!t25)).bind fun r_32 =>
             j__6 (t1_11,t2_11,t3_11,t6_12,t9_11,t10_11,(t11_12.1,t11_12.2.1,t11_12.2.2.1,t11_12.2.2.2.1,r_31.2,t11_12.2.2.2.2.2),t12_11,t13_11,t14_11,t17_6,t18_6,(t19_7.1,t19_7.2.1,t19_7.2.2.1,t19_7.2.2.2.1,t19_7.2.2.2.2.1,t19_7.2.2.2.2.2.1,t19_7.2.2.2.2.2.2.1,r_30),t25,r_32.1)
            else
             j__6 (t1_11,t2_11,t3_11,t6_12,t9_11,t10_11,t11_12,t12_11,t13_11,t14_11,t17_6,t18_6,t19_7,t25,(List.getD r_30 0 0))
           else none) fun j__5 =>
         (d84 t12_10 1).bind fun r_29 =>
         bif (decide (0 < r_29)) then
          j__5 (t1_10,t2_10,t3_10,t6_10,t9_10,t10_10,t11_10,t12_10,t13_10,t14_10,t17_5,t18_5,t19_5,1,true)
         else
          j__5 (t1_10,t2_10,t3_10,t6_10,t9_10,t10_10,t11_10,t12_10,t13_10,t14_10,t17_5,t18_5,t19_5,0,false)) fun j__3 =>
      bif !(decide ((w (r_24+r_25))=t3_9.2.2.2.1)) then
       (d84 t12_9 0).bind fun r_26 =>
       j__3 (t1_9,t2_9,t3_9,t6_9,t9_9,t10_9,t11_9,t12_9,t13_9,t14_9,t17_4,t18_4,(t19_4.1,t19_4.2.1,t19_4.2.2.1,r_22,r_23,t19_4.2.2.2.2.2),(w (r_24+r_25)),(decide ((w ((w (r_24+r_25))+r_26))≤t3_9.2.2.2.1)))
      else
       j__3 (t1_9,t2_9,t3_9,t6_9,t9_9,t10_9,t11_9,t12_9,t13_9,t14_9,t17_4,t18_4,(t19_4.1,t19_4.2.1,t19_4.2.2.1,r_22,r_23,t19_4.2.2.2.2.2),(w (r_24+r_25)),true)
     else none) (t1_3,t2_3,t3_3,t6_3,t9_3,t10_3,t11_3,t12_3,t13_3,t14_3)).bind fun ((t6_15,t7):uc2 × Int) =>
   some (t6_15,t7)
  else none
noncomputable def d184 (a:List uc12) (b:List uc12):Option Bool :=
 bif !(decide ((a.length:Int)=(b.length:Int))) then
  some false
 else
  (zaa (β:=Unit ⊕ Bool) (fun ((a_1,b_1,i):uc10 × uc10 × Int) =>
    bif (decide (i < (a_1.length:Int))) then
     bif (decide (0≤i) && decide (i < (a_1.length:Int))) then
      bif (decide (0≤i) && decide (i < (b_1.length:Int))) then
       (d37 (List.getD a_1 (Int.toNat i) (false,[],[])) (List.getD b_1 (Int.toNat i) (false,[],[]))).bind fun r =>
       bif !r then
        some (Sum.inr (Sum.inr false))
       else
        some (Sum.inl (a_1,b_1,(w (i+1))))
      else none
     else none
    else
     some (Sum.inr (Sum.inl ()))) (a,b,0)).bind fun
  | Sum.inl _ =>
   some true
  | Sum.inr t4 =>
   some t4
noncomputable def d151 (a:uc5) (b:uc5):Option Bool :=
 (d184 a.1 b.1).bind fun r =>
 bif r then
  (d184 a.2.1 b.2.1).bind fun r_1 =>
  bif r_1 then
   (d37 a.2.2.1 b.2.2.1).bind fun r_2 =>
   bif r_2 then
    (d37 a.2.2.2.1 b.2.2.2.1).bind fun r_3 =>
    bif r_3 then
     (d37 a.2.2.2.2.1 b.2.2.2.2.1).bind fun r_4 =>
     bif r_4 then
      (d38 a.2.2.2.2.2.1 b.2.2.2.2.2.1).bind fun r_5 =>
      bif r_5 then
       (d38 a.2.2.2.2.2.2.1 b.2.2.2.2.2.2.1).bind fun r_6 =>
       bif r_6 then
        (d38 a.2.2.2.2.2.2.2 b.2.2.2.2.2.2.2).bind fun r_7 =>
        some r_7
       else
        some false
      else
       some false
     else
      some false
    else
     some false
   else
    some false
  else
   some false
 else
  some false
noncomputable def d91 (p0:uc2) (p1:uc2):Option Bool :=
 letJ (fun ((t2,t3,t48):uc2 × uc2 × Bool) =>
   bif t48 then
    some false
   else
    (zaa (β:=Unit ⊕ Bool) (fun ((t2_1,t3_1,t5):uc2 × uc2 × Int) =>
      bif (decide (t5 < (t2_1.2.2.2.2.1.length:Int))) then
       bif (decide (0≤t5) && decide (t5 < (t2_1.2.2.2.2.1.length:Int))) then
        bif (decide (0≤t5) && decide (t5 < (t3_1.2.2.2.2.1.length:Int))) then
         (d151 (List.getD t2_1.2.2.2.2.1 (Int.toNat t5) ([],[],(false,[],[]),(false,[],[]),(false,[],[]),[],[],[])) (List.getD t3_1.2.2.2.2.1 (Int.toNat t5) ([],[],(false,[],[]),(false,[],[]),(false,[],[]),[],[],[]))).bind fun r_1 =>
         bif !r_1 then
          some (Sum.inr (Sum.inr false))
         else
          some (Sum.inl (t2_1,t3_1,(w (t5+1))))
        else none
       else none
      else
       some (Sum.inr (Sum.inl ()))) (t2,t3,0)).bind fun
    | Sum.inl _ =>
     some true
    | Sum.inr t4 =>
     some t4) fun j_ =>
 bif !(!(decide (p0.1=p1.1))) then
  bif !(!(decide (p0.2.1=p1.2.1))) then
   bif !(!(decide (p0.2.2.1=p1.2.2.1))) then
    bif !(!(decide (p0.2.2.2.1=p1.2.2.2.1))) then
     (d38 p0.2.2.2.2.2 p1.2.2.2.2.2).bind fun r =>
     bif !(!r) then
      j_ (p0,p1,!(decide ((p0.2.2.2.2.1.length:Int)=(p1.2.2.2.2.1.length:Int))))
     else
      j_ (p0,p1,true)
    else
     j_ (p0,p1,true)
   else
    j_ (p0,p1,true)
  else
   j_ (p0,p1,true)
 else
  j_ (p0,p1,true)
noncomputable def d29 (a:uc2) (b:uc2):Option Bool :=
 (d91 a b).bind fun r =>
 some r
noncomputable def d3 (p0:uc7) (p1:List uc16) (p2:List Int) (p3:Bool) (p4:Int) (p5:Int) (p6:List uc18):Option Bool :=
 letJ (fun ((t1,t2,t3,t4,t5,t6,t7,t39):uc13 × uc18 × Bool × Int × Int × uc15 × uc7 × Bool) =>
   bif t39 then
    (d21).bind fun r_2 =>
    some r_2
   else
    bif t3 then
     (d22 t7 t1 t2).bind fun r_3 =>
     (d21).bind fun r_4 =>
     bif r_4 then
      (d23 3 t7 t1 t2).bind fun r_5 =>
      some (decide (r_3.2=r_5))
     else
      some false
    else
     (d24 t4 7).bind fun r_6 =>
     (d25 2 (w (1+r_6)) t7.2.2.2.1 0 t7.2.2.2.2.2.2.1).bind fun r_7 =>
     (d26 (w (1+r_6)) t6 16).bind fun r_8 =>
     (d27 (w (1+r_6)) t5).bind fun r_9 =>
     (d22 r_7 r_8 r_9).bind fun r_10 =>
     (d28 r_7 r_8 r_9).bind fun r_11 =>
     (d21).bind fun r_12 =>
     bif r_12 then
      bif (decide (r_10.2=r_11.2)) then
       (d29 r_10.1 r_11.1).bind fun r_13 =>
       some r_13
      else
       some false
     else
      some false) fun j_ =>
 (d19 p1).bind fun r =>
 bif !(!r) then
  (d20 p6).bind fun r_1 =>
  bif !(!r_1) then
   bif !(decide (12 < (p2.length:Int))) then
    j_ (p1,p2,p3,p4,p5,p6,p0,(decide (12 < (p0.2.1.length:Int))))
   else
    j_ (p1,p2,p3,p4,p5,p6,p0,true)
  else
   j_ (p1,p2,p3,p4,p5,p6,p0,true)
 else
  j_ (p1,p2,p3,p4,p5,p6,p0,true)
noncomputable def d4 (ballots:Int) (seats:Int):Option Bool :=
 (d30 ballots seats).bind fun r =>
 letJ (fun ((ballots_1,seats_1,q,t22):Int × Int × Int × Bool) =>
   bif t22 then
    (d21).bind fun r_1 =>
    bif r_1 then
     some (decide (q=0))
    else
     some false
   else
    (d21).bind fun r_2 =>
    bif r_2 then
     bif (decide (1≤q)) then
      bif (decide (q≤100001)) then
       bif (decide (ballots_1 < (w (q * (w (seats_1+1)))))) then
        some (decide ((w ((w (q - 1)) * (w (seats_1+1))))≤ballots_1))
       else
        some false
      else
       some false
     else
      some false
    else
     some false) fun j_ =>
 bif !(decide (ballots < 0)) then
  bif !(decide (100000 < ballots)) then
   bif !(decide (seats < 1)) then
    j_ (ballots,seats,r,(decide (5 < seats)))
   else
    j_ (ballots,seats,r,true)
  else
   j_ (ballots,seats,r,true)
 else
  j_ (ballots,seats,r,true)
noncomputable def d31 (n:Int) (seats:Int) (ties:Int) (code_:Int) (ballots:List uc18):Option (uc7 × uc13 × uc2 × Int) :=
 (d25 2 n seats 0 ties).bind fun r =>
 (d26 n ballots 16).bind fun r_1 =>
 (d27 n code_).bind fun r_2 =>
 (d22 r r_1 r_2).bind fun r_3 =>
 some (r,r_1,r_3.1,r_3.2)
noncomputable def d5 (p0:Int) (p1:Int) (p2:Int) (p3:Int) (p4:List uc18):Option Bool :=
 (d20 p4).bind fun r =>
 bif !r then
  (d21).bind fun r_1 =>
  some r_1
 else
  (d24 p0 7).bind fun r_2 =>
  (d31 (w (1+r_2)) p1 p2 p3 p4).bind fun r_3 =>
  letJ (fun ((t0,t4,t13,t63):Int × uc15 × uc2 × Bool) =>
    bif t63 then
     some false
    else
     (d33 0).bind fun r_5 =>
     (zaa (β:=Unit ⊕ Bool) (fun ((t0_1,t4_1,t13_1,t15,t16):Int × uc15 × uc2 × uc11 × Int) =>
       bif (decide (t16 < (t13_1.2.2.2.2.1.length:Int))) then
        bif (decide (0≤t16) && decide (t16 < (t13_1.2.2.2.2.1.length:Int))) then
         (d34 (((((List.getD t13_1.2.2.2.2.1 (Int.toNat t16) ([],[],(false,[],[]),(false,[],[]),(false,[],[]),[],[],[])).2).2).2).1)).bind fun r_6 =>
         (zaa (β:=(Int × uc15 × uc2 × uc11 × Int × uc5 × uc11 × uc11)) (fun ((t0_2,t4_2,t13_2,t15_1,t16_1,t17,t18,t19,t20):Int × uc15 × uc2 × uc11 × Int × uc5 × uc11 × uc11 × Int) =>
           bif (decide (t20 < (t17.1.length:Int))) then
            bif (decide (0≤t20) && decide (t20 < (t17.1.length:Int))) then
             (d34 (List.getD t17.1 (Int.toNat t20) (false,[],[]))).bind fun r_7 =>
             (d35 t19 r_7).bind fun r_8 =>
             some (Sum.inl (t0_2,t4_2,t13_2,t15_1,t16_1,t17,t18,r_8,(w (t20+1))))
            else none
           else
            some (Sum.inr (t0_2,t4_2,t13_2,t15_1,t16_1,t17,t18,t19))) (t0_1,t4_1,t13_1,t15,t16,(List.getD t13_1.2.2.2.2.1 (Int.toNat t16) ([],[],(false,[],[]),(false,[],[]),(false,[],[]),[],[],[])),r_6,r_6,0)).bind fun ((t0_3,t4_3,t13_3,t15_2,t16_2,t17_1,t18_1,t19_1):Int × uc15 × uc2 × uc11 × Int × uc5 × uc11 × uc11) =>
         letJ (fun ((t0_4,t4_4,t13_4,t15_3,t16_3,t18_2,t114):Int × uc15 × uc2 × uc11 × Int × uc11 × Bool) =>
           bif t114 then
            some (Sum.inr (Sum.inr false))
           else
            some (Sum.inl (t0_4,t4_4,t13_4,t18_2,(w (t16_3+1))))) fun j__1 =>
         bif !(!(decide ((t17_1.1.length:Int)=t0_3))) then
          (d33 (t4_3.length:Int)).bind fun r_9 =>
          (d36 t19_1 r_9).bind fun r_10 =>
          bif !(!(decide (r_10=0))) then
           (d36 t18_1 t15_2).bind fun r_11 =>
           j__1 (t0_3,t4_3,t13_3,t15_2,t16_2,t18_1,(decide (r_11 < 0)))
          else
           j__1 (t0_3,t4_3,t13_3,t15_2,t16_2,t18_1,true)
         else
          j__1 (t0_3,t4_3,t13_3,t15_2,t16_2,t18_1,true)
        else none
       else
        some (Sum.inr (Sum.inl ()))) (t0,t4,t13,r_5,0)).bind fun
     | Sum.inl _ =>
      (d21).bind fun r_12 =>
      some r_12
     | Sum.inr t10 =>
      some t10) fun j_ =>
  bif !(!(decide (r_3.2.2.2=0))) then
   bif !(decide ((r_3.2.2.1.2.2.2.2.1.length:Int) < 1)) then
    bif !(!(decide ((r_3.2.2.1.2.2.2.2.2.length:Int)=(bif (decide ((w (1+r_2)) < r_3.1.2.2.2.1)) then (w (1+r_2)) else r_3.1.2.2.2.1)))) then
     (d32 (w (1+r_2)) r_3.2.2.1.2.2.2.2.2).bind fun r_4 =>
     j_ ((w (1+r_2)),p4,r_3.2.2.1,!r_4)
    else
     j_ ((w (1+r_2)),p4,r_3.2.2.1,true)
   else
    j_ ((w (1+r_2)),p4,r_3.2.2.1,true)
  else
   j_ ((w (1+r_2)),p4,r_3.2.2.1,true)
noncomputable def d6 (p0:Int) (p1:Int) (p2:Int) (p3:Int) (p4:List uc18):Option Bool :=
 (d20 p4).bind fun r =>
 bif !r then
  (d21).bind fun r_1 =>
  some r_1
 else
  (d24 p0 7).bind fun r_2 =>
  (d31 (w (1+r_2)) p1 p2 p3 p4).bind fun r_3 =>
  letJ (fun ((t0,t13,t47):Int × uc2 × Bool) =>
    bif t47 then
     some false
    else
     (d33 1).bind fun r_4 =>
     (zaa (β:=Unit ⊕ Bool) (fun ((t0_1,t13_1,t15,t16):Int × uc2 × uc11 × Int) =>
       bif (decide ((w (t16+1)) < (t13_1.2.2.2.2.1.length:Int))) then
        bif (decide (0≤t16) && decide (t16 < (t13_1.2.2.2.2.1.length:Int))) then
         bif (decide (0≤(w (t16+1))) && decide ((w (t16+1)) < (t13_1.2.2.2.2.1.length:Int))) then
          letJ (fun ((t0_2,t13_2,t15_1,t16_1,t17,t18,t101):Int × uc2 × uc11 × Int × uc5 × uc5 × Bool) =>
            bif t101 then
             some (Sum.inr (Sum.inr false))
            else
             (zaa (β:=(Int × uc2 × uc11 × Int × Int) ⊕ Bool) (fun ((t0_3,t13_3,t15_2,t16_2,t17_1,t18_1,t19,t20):Int × uc2 × uc11 × Int × uc5 × uc5 × Int × Int) =>
               bif (decide (t20 < t0_3)) then
                letJ (fun ((t0_5,t13_5,t15_4,t16_4,t17_3,t18_3,t19_2,t20_2):Int × uc2 × uc11 × Int × uc5 × uc5 × Int × Int) =>
                  some (Sum.inl (t0_5,t13_5,t15_4,t16_4,t17_3,t18_3,t19_2,(w (t20_2+1))))) fun j__3 =>
                bif (decide (0≤t20) && decide (t20 < (t17_1.2.1.length:Int))) then
                 bif (decide (0≤t20) && decide (t20 < (t18_1.2.1.length:Int))) then
                  (d37 (List.getD t17_1.2.1 (Int.toNat t20) (false,[],[])) (List.getD t18_1.2.1 (Int.toNat t20) (false,[],[]))).bind fun r_6 =>
                  bif r_6 then
                   j__3 (t0_3,t13_3,t15_2,t16_2,t17_1,t18_1,t19,t20)
                  else
                   (d38 t17_1.2.2.2.2.2.2.1 [t20]).bind fun r_7 =>
                   bif r_7 then
                    bif (decide (0≤t20) && decide (t20 < (t18_1.2.1.length:Int))) then
                     (d39 0).bind fun r_8 =>
                     (d37 (List.getD t18_1.2.1 (Int.toNat t20) (false,[],[])) r_8).bind fun r_9 =>
                     bif !r_9 then
                      some (Sum.inr (Sum.inr false))
                     else
                      j__3 (t0_3,t13_3,t15_2,t16_2,t17_1,t18_1,(w (t19+1)),t20)
                    else none
                   else
                    bif (decide (0≤t20) && decide (t20 < (t17_1.1.length:Int))) then
                     (d34 (List.getD t17_1.1 (Int.toNat t20) (false,[],[]))).bind fun r_10 =>
                     bif (decide (0≤t20) && decide (t20 < (t18_1.2.1.length:Int))) then
                      (d34 (List.getD t18_1.2.1 (Int.toNat t20) (false,[],[]))).bind fun r_11 =>
                      (d41 r_11).bind fun r_12 =>
                      (d35 t15_2 r_12).bind fun r_13 =>
                      (d40 r_10 r_13).bind fun r_14 =>
                      letJ (fun ((t0_4,t13_4,t15_3,t16_3,t17_2,t18_2,t19_1,t20_1,t171):Int × uc2 × uc11 × Int × uc5 × uc5 × Int × Int × Bool) =>
                        bif t171 then
                         some (Sum.inr (Sum.inr false))
                        else
                         j__3 (t0_4,t13_4,t15_3,t16_3,t17_2,t18_2,t19_1,t20_1)) fun j__2 =>
                      bif !(!(decide ((t17_1.2.2.2.2.2.2.1.length:Int)=0))) then
                       (d34 t17_1.2.2.1).bind fun r_15 =>
                       (d36 r_14 r_15).bind fun r_16 =>
                       bif !(!(decide (r_16=0))) then
                        bif (decide (0≤t20) && decide (t20 < (t18_1.1.length:Int))) then
                         (d37 (List.getD t18_1.1 (Int.toNat t20) (false,[],[])) t17_1.2.2.1).bind fun r_17 =>
                         j__2 (t0_3,t13_3,t15_2,t16_2,t17_1,t18_1,(w (t19+1)),t20,!r_17)
                        else none
                       else
                        j__2 (t0_3,t13_3,t15_2,t16_2,t17_1,t18_1,(w (t19+1)),t20,true)
                      else
                       j__2 (t0_3,t13_3,t15_2,t16_2,t17_1,t18_1,(w (t19+1)),t20,true)
                     else none
                    else none
                 else none
                else none
               else
                some (Sum.inr (Sum.inl (t0_3,t13_3,t15_2,t16_2,t19)))) (t0_2,t13_2,t15_1,t16_1,t17,t18,0,0)).bind fun
             | Sum.inl (t0_6,t13_6,t15_5,t16_5,t19_3) =>
              bif !(decide (t19_3=1)) then
               some (Sum.inr (Sum.inr false))
              else
               some (Sum.inl (t0_6,t13_6,t15_5,(w (t16_5+1))))
             | Sum.inr t10 =>
              some (Sum.inr (Sum.inr t10))) fun j__1 =>
          bif !(!(decide (((((List.getD t13_1.2.2.2.2.1 (Int.toNat t16) ([],[],(false,[],[]),(false,[],[]),(false,[],[]),[],[],[])).2).1).length:Int)=t0_1))) then
           bif !(!(decide (((((List.getD t13_1.2.2.2.2.1 (Int.toNat (w (t16+1))) ([],[],(false,[],[]),(false,[],[]),(false,[],[]),[],[],[])).2).1).length:Int)=t0_1))) then
            bif !(!(decide ((((List.getD t13_1.2.2.2.2.1 (Int.toNat t16) ([],[],(false,[],[]),(false,[],[]),(false,[],[]),[],[],[])).1).length:Int)=t0_1))) then
             bif !(!(decide ((((List.getD t13_1.2.2.2.2.1 (Int.toNat (w (t16+1))) ([],[],(false,[],[]),(false,[],[]),(false,[],[]),[],[],[])).1).length:Int)=t0_1))) then
              (d37 ((((List.getD t13_1.2.2.2.2.1 (Int.toNat t16) ([],[],(false,[],[]),(false,[],[]),(false,[],[]),[],[],[])).2).2).1) ((((List.getD t13_1.2.2.2.2.1 (Int.toNat (w (t16+1))) ([],[],(false,[],[]),(false,[],[]),(false,[],[]),[],[],[])).2).2).1)).bind fun r_5 =>
              j__1 (t0_1,t13_1,t15,t16,(List.getD t13_1.2.2.2.2.1 (Int.toNat t16) ([],[],(false,[],[]),(false,[],[]),(false,[],[]),[],[],[])),(List.getD t13_1.2.2.2.2.1 (Int.toNat (w (t16+1))) ([],[],(false,[],[]),(false,[],[]),(false,[],[]),[],[],[])),!r_5)
             else
              j__1 (t0_1,t13_1,t15,t16,(List.getD t13_1.2.2.2.2.1 (Int.toNat t16) ([],[],(false,[],[]),(false,[],[]),(false,[],[]),[],[],[])),(List.getD t13_1.2.2.2.2.1 (Int.toNat (w (t16+1))) ([],[],(false,[],[]),(false,[],[]),(false,[],[]),[],[],[])),true)
            else
             j__1 (t0_1,t13_1,t15,t16,(List.getD t13_1.2.2.2.2.1 (Int.toNat t16) ([],[],(false,[],[]),(false,[],[]),(false,[],[]),[],[],[])),(List.getD t13_1.2.2.2.2.1 (Int.toNat (w (t16+1))) ([],[],(false,[],[]),(false,[],[]),(false,[],[]),[],[],[])),true)
           else
            j__1 (t0_1,t13_1,t15,t16,(List.getD t13_1.2.2.2.2.1 (Int.toNat t16) ([],[],(false,[],[]),(false,[],[]),(false,[],[]),[],[],[])),(List.getD t13_1.2.2.2.2.1 (Int.toNat (w (t16+1))) ([],[],(false,[],[]),(false,[],[]),(false,[],[]),[],[],[])),true)
          else
           j__1 (t0_1,t13_1,t15,t16,(List.getD t13_1.2.2.2.2.1 (Int.toNat t16) ([],[],(false,[],[]),(false,[],[]),(false,[],[]),[],[],[])),(List.getD t13_1.2.2.2.2.1 (Int.toNat (w (t16+1))) ([],[],(false,[],[]),(false,[],[]),(false,[],[]),[],[],[])),true)
         else none
        else none
       else
        some (Sum.inr (Sum.inl ()))) (t0,t13,r_4,0)).bind fun
     | Sum.inl _ =>
      (d21).bind fun r_18 =>
      some r_18
     | Sum.inr t10_1 =>
      some t10_1) fun j_ =>
  bif !(!(decide (r_3.2.2.2=0))) then
   j_ ((w (1+r_2)),r_3.2.2.1,(decide ((r_3.2.2.1.2.2.2.2.1.length:Int) < 1)))
  else
   j_ ((w (1+r_2)),r_3.2.2.1,true)
noncomputable def d43 (l:List Int) (to:List Int):Option uc18 :=
 (zaa (β:=uc18) (fun ((l_1,to_1,out,i):uc18 × uc18 × uc18 × Int) =>
   bif (decide (i < (l_1.length:Int))) then
    bif (decide (0≤i) && decide (i < (l_1.length:Int))) then
     bif (decide (0≤(List.getD l_1 (Int.toNat i) 0)) && decide ((List.getD l_1 (Int.toNat i) 0) < (to_1.length:Int))) then
      bif (decide ((out.length:Int)+(([(List.getD to_1 (Int.toNat (List.getD l_1 (Int.toNat i) 0)) 0)]:List Int).length:Int)≤LIM)) then
       some (Sum.inl (l_1,to_1,(out++[(List.getD to_1 (Int.toNat (List.getD l_1 (Int.toNat i) 0)) 0)]),(w (i+1))))
      else none
     else none
    else none
   else
    some (Sum.inr out)) (l,to,[],0)).bind fun (out_1:List Int) =>
 some out_1
noncomputable def d42 (gs:List uc16) (to:List Int):Option uc13 :=
 (zaa (β:=uc13) (fun ((gs_1,to_1,out,i):uc13 × uc18 × uc13 × Int) =>
   bif (decide (i < (gs_1.length:Int))) then
    bif (decide (0≤i) && decide (i < (gs_1.length:Int))) then
     (d43 ((List.getD gs_1 (Int.toNat i) ([],0)).1) to_1).bind fun r =>
     bif (decide (0≤i) && decide (i < (gs_1.length:Int))) then
      (d98 out r ((List.getD gs_1 (Int.toNat i) ([],0)).2)).bind fun r_1 =>
      some (Sum.inl (gs_1,to_1,r_1,(w (i+1))))
     else none
    else none
   else
    some (Sum.inr out)) (gs,to,[],0)).bind fun (out_1:List uc16) =>
 some out_1
noncomputable def d44 (l:List Int):Option uc18 :=
 (zaa (β:=uc18) (fun ((l_1,out,x):uc18 × uc18 × Int) =>
   bif (decide (x < 12)) then
    letJ (fun ((l_2,out_1,x_1):uc18 × uc18 × Int) =>
      some (Sum.inl (l_2,out_1,(w (x_1+1))))) fun j_ =>
    (d49 l_1 x).bind fun r =>
    bif r then
     bif (decide ((out.length:Int)+(([x]:List Int).length:Int)≤LIM)) then
      j_ (l_1,(out++[x]),x)
     else none
    else
     j_ (l_1,out,x)
   else
    some (Sum.inr out)) (l,[],0)).bind fun (out_2:List Int) =>
 some out_2
def sg44:Sig:=⟨[(y26,.bw)],[(y26,(.own 3 .sh))]⟩
def plan44:Plan:=(.seq (.reg [] []) (.seq (.reg [] [{ fl:=2 }]) (.seq (.seq (.reg [] []) (.block (.loop [(0,.v y26 .bw),(3,.v y26 (.own 3 .sh)),(4,.v y2 .sh)] [(.brk 0,[(3,.v y26 (.own 3 .sh))])] (.seq (.seq (.reg [] []) (.cond .nil .nil)) (.join (.block (.seq (.reg [] []) (.cond (.reg [] []) .nil))) [(0,.v y26 .bw),(3,.v y26 (.own 3 .sh)),(4,.v y2 .sh)] (.reg [] [])))))) (.seq (.reg [] []) .nil))))
theorem ev44 (xs:Vals (ptys sg44.ps)):evF (P:=Tryz.prog) tab [.fn E49] sg44 Tryz.f44.results.toList (code Tryz.f44) plan44 xs=d44 xs.1:=by kernel_rfl
theorem sim44:Sim Tryz.prog 44 sg44 d44:=zah mixd zan Tryz.func44 (zac rfl) Tryz.call44 (Nat.le_of_ble_eq_true (by kernel_rfl)) (by kernel_rfl) plan44 _ fun xs y h=>(ev44 xs).trans h
noncomputable def E44:FnE Tryz.prog:=⟨44,sg44,d44,sim44⟩
noncomputable def d7 (p0:Int) (p1:Int) (p2:Int) (p3:Int) (p4:Int) (p5:List uc18):Option Bool :=
 (d20 p5).bind fun r =>
 bif !r then
  (d21).bind fun r_1 =>
  some r_1
 else
  (d24 p0 7).bind fun r_2 =>
  (d31 (w (1+r_2)) p1 p2 p3 p5).bind fun r_3 =>
  (d27 (w (1+r_2)) p4).bind fun r_4 =>
  (d42 r_3.2.1 r_4).bind fun r_5 =>
  (d27 (w (1+r_2)) p3).bind fun r_6 =>
  (d43 r_6 r_4).bind fun r_7 =>
  (d22 r_3.1 r_5 r_7).bind fun r_8 =>
  letJ (fun ((t15,t17,t18,t81):uc2 × uc18 × uc2 × Bool) =>
    bif t81 then
     some false
    else
     (d21).bind fun r_10 =>
     bif r_10 then
      (d44 t18.2.2.2.2.2).bind fun r_11 =>
      (d43 t15.2.2.2.2.2 t17).bind fun r_12 =>
      (d44 r_12).bind fun r_13 =>
      (d38 r_11 r_13).bind fun r_14 =>
      some r_14
     else
      some false) fun j_ =>
  bif !(!(decide (r_3.2.2.2=0))) then
   bif !(!(decide (r_8.2=0))) then
    (d32 (w (1+r_2)) r_3.2.2.1.2.2.2.2.2).bind fun r_9 =>
    bif !(!r_9) then
     bif !(!(decide ((r_3.2.2.1.2.2.2.2.1.length:Int)=(r_8.1.2.2.2.2.1.length:Int)))) then
      j_ (r_3.2.2.1,r_4,r_8.1,(decide ((r_3.2.2.1.2.2.2.2.1.length:Int)=0)))
     else
      j_ (r_3.2.2.1,r_4,r_8.1,true)
    else
     j_ (r_3.2.2.1,r_4,r_8.1,true)
   else
    j_ (r_3.2.2.1,r_4,r_8.1,true)
  else
   j_ (r_3.2.2.1,r_4,r_8.1,true)
noncomputable def d45 (n:Int) (bits:Int):Option uc18 :=
 (zaa (β:=uc18) (fun ((n_1,bits_1,out,i):Int × Int × uc18 × Int) =>
   bif (decide (i < n_1)) then
    letJ (fun ((n_2,bits_2,out_1,i_1):Int × Int × uc18 × Int) =>
      some (Sum.inl (n_2,bits_2,out_1,(w (i_1+1))))) fun j_ =>
    (d24 bits_1 128).bind fun r =>
    bif (decide (0≤(wu64 i))) then
     bif (decide ((w ((BitVec.ofInt 64 (w (Int.fdiv r (2 ^ (min (Int.toNat (wu64 i)) 64)))) &&& BitVec.ofInt 64 1).toNat:Int))=1)) then
      bif (decide ((out.length:Int)+(([i]:List Int).length:Int)≤LIM)) then
       j_ (n_1,bits_1,(out++[i]),i)
      else none
     else
      j_ (n_1,bits_1,out,i)
    else none
   else
    some (Sum.inr out)) (n,bits,[],0)).bind fun (out_2:List Int) =>
 bif (decide ((out_2.length:Int)=0)) then
  some [0]
 else
  some out_2
noncomputable def d47 (n:Int) (set_:List Int) (ballots:List uc18):Option uc15 :=
 (zaa (β:=uc15) (fun ((n_1,set__1,ballots_1,out,i):Int × uc18 × uc15 × uc15 × Int) =>
   bif (decide (i < (ballots_1.length:Int))) then
    (zaa (β:=(Int × uc18 × uc15 × uc15 × Int × uc18)) (fun ((n_2,set__2,ballots_2,out_1,i_1,p,k):Int × uc18 × uc15 × uc15 × Int × uc18 × Int) =>
      bif (decide (0≤i_1) && decide (i_1 < (ballots_2.length:Int))) then
       bif (decide (k < ((List.getD ballots_2 (Int.toNat i_1) []).length:Int))) then
        letJ (fun ((n_3,set__3,ballots_3,out_2,i_2,p_1,k_1):Int × uc18 × uc15 × uc15 × Int × uc18 × Int) =>
          some (Sum.inl (n_3,set__3,ballots_3,out_2,i_2,p_1,(w (k_1+1))))) fun j_ =>
        bif (decide (0≤i_1) && decide (i_1 < (ballots_2.length:Int))) then
         bif (decide (0≤k) && decide (k < ((List.getD ballots_2 (Int.toNat i_1) []).length:Int))) then
          (d49 set__2 (List.getD (List.getD ballots_2 (Int.toNat i_1) []) (Int.toNat k) 0)).bind fun r =>
          bif r then
           bif (decide (0≤i_1) && decide (i_1 < (ballots_2.length:Int))) then
            bif (decide (0≤k) && decide (k < ((List.getD ballots_2 (Int.toNat i_1) []).length:Int))) then
             bif (decide ((p.length:Int)+(([(List.getD (List.getD ballots_2 (Int.toNat i_1) []) (Int.toNat k) 0)]:List Int).length:Int)≤LIM)) then
              j_ (n_2,set__2,ballots_2,out_1,i_1,(p++[(List.getD (List.getD ballots_2 (Int.toNat i_1) []) (Int.toNat k) 0)]),k)
             else none
            else none
           else none
          else
           j_ (n_2,set__2,ballots_2,out_1,i_1,p,k)
         else none
        else none
       else
        some (Sum.inr (n_2,set__2,ballots_2,out_1,i_1,p))
      else none) (n_1,set__1,ballots_1,out,i,[],0)).bind fun ((n_4,set__4,ballots_4,out_3,i_3,p_2):Int × uc18 × uc15 × uc15 × Int × uc18) =>
    bif (decide ((p_2.length:Int)+(set__4.length:Int)≤LIM)) then
     bif (decide (0≤i_3) && decide (i_3 < (ballots_4.length:Int))) then
      bif (decide (((p_2++set__4).length:Int)+((List.getD ballots_4 (Int.toNat i_3) []).length:Int)≤LIM)) then
       (d99 n_4 ((p_2++set__4)++(List.getD ballots_4 (Int.toNat i_3) []))).bind fun r_1 =>
       bif (decide ((out_3.length:Int)+(([r_1]:List uc18).length:Int)≤LIM)) then
        some (Sum.inl (n_4,set__4,ballots_4,(out_3++[r_1]),(w (i_3+1))))
       else none
      else none
     else none
    else none
   else
    some (Sum.inr out)) (n,set_,ballots,[],0)).bind fun (out_4:List uc18) =>
 some out_4
noncomputable def d8 (p0:Int) (p1:Int) (p2:Int) (p3:Int) (p4:List uc18) (p5:List uc18) (p6:Int):Option Bool :=
 letJ (fun ((t0,t1,t2,t3,t4,t5,t6,t35):Int × Int × Int × Int × uc15 × uc15 × Int × Bool) =>
   bif t35 then
    (d21).bind fun r_2 =>
    some r_2
   else
    (d24 t0 7).bind fun r_3 =>
    (d25 2 (w (1+r_3)) t1 0 t2).bind fun r_4 =>
    (d45 (w (1+r_3)) t6).bind fun r_5 =>
    (d46 (w (1+r_3)) t4 8).bind fun r_6 =>
    (d46 (w (1+r_3)) t5 8).bind fun r_7 =>
    (d47 (w (1+r_3)) r_5 r_7).bind fun r_8 =>
    bif (decide ((r_6.length:Int)+(r_8.length:Int)≤LIM)) then
     (zaa (β:=(Int × Int × uc7 × uc18 × uc15 × Int × Int)) (fun ((t0_1,t3_1,t15,t16,t17,t18,t19,t20):uc22) =>
       bif (decide (t20 < (t17.length:Int))) then
        letJ (fun ((t0_4,t3_4,t15_3,t16_3,t17_3,t18_3,t19_3,t20_3):uc22) =>
          some (Sum.inl (t0_4,t3_4,t15_3,t16_3,t17_3,t18_3,t19_3,(w (t20_3+1))))) fun j__3 =>
        letJ (fun ((t0_2,t3_2,t15_1,t16_1,t17_1,t18_1,t19_1,t20_1):uc22) =>
          letJ (fun ((t0_3,t3_3,t15_2,t16_2,t17_2,t18_2,t19_2,t20_2,t91):Int × Int × uc7 × uc18 × uc15 × Int × Int × Int × Bool) =>
            bif t91 then
             j__3 (t0_3,t3_3,t15_2,t16_2,t17_2,(w (t18_2+1)),t19_2,t20_2)
            else
             j__3 (t0_3,t3_3,t15_2,t16_2,t17_2,t18_2,t19_2,t20_2)) fun j__2 =>
          bif (decide (0≤t20_1) && decide (t20_1 < (t17_1.length:Int))) then
           bif (decide ((t16_1.length:Int)≤((List.getD t17_1 (Int.toNat t20_1) []).length:Int))) then
            bif (decide (0≤t20_1) && decide (t20_1 < (t17_1.length:Int))) then
             bif (zcf 0 (t16_1.length:Int) (List.getD t17_1 (Int.toNat t20_1) []).length) then
              (d44 (List.drop 0 (List.take (Int.toNat (t16_1.length:Int)) (List.getD t17_1 (Int.toNat t20_1) [])))).bind fun r_9 =>
              (d38 r_9 t16_1).bind fun r_10 =>
              j__2 (t0_2,t3_2,t15_1,t16_1,t17_1,t18_1,t19_1,t20_1,r_10)
             else none
            else none
           else
            j__2 (t0_2,t3_2,t15_1,t16_1,t17_1,t18_1,t19_1,t20_1,false)
          else none) fun j__1 =>
        bif (decide (0≤t20) && decide (t20 < (t17.length:Int))) then
         bif (decide (0 < ((List.getD t17 (Int.toNat t20) []).length:Int))) then
          j__1 (t0_1,t3_1,t15,t16,t17,t18,(w (t19+1)),t20)
         else
          j__1 (t0_1,t3_1,t15,t16,t17,t18,t19,t20)
        else none
       else
        some (Sum.inr (t0_1,t3_1,t15,t16,t17,t18,t19))) ((w (1+r_3)),t3,r_4,r_5,(r_6++r_8),0,0,0)).bind fun ((t0_5,t3_5,t15_4,t16_4,t17_4,t18_4,t19_4):Int × Int × uc7 × uc18 × uc15 × Int × Int) =>
     (d48 t0_5 t17_4).bind fun r_11 =>
     (d27 t0_5 t3_5).bind fun r_12 =>
     (d22 t15_4 r_11.1 r_12).bind fun r_13 =>
     letJ (fun ((t0_6,t15_5,t16_5,t18_5,t19_5,t23,t117):Int × uc7 × uc18 × Int × Int × uc2 × Bool) =>
       bif t117 then
        some false
       else
        (zaa (β:=(Int × uc7 × uc18 × Int × Int × uc2 × Int)) (fun ((t0_7,t15_6,t16_6,t18_6,t19_6,t23_1,t25,t26):Int × uc7 × uc18 × Int × Int × uc2 × Int × Int) =>
          bif (decide (t26 < (t23_1.2.2.2.2.2.length:Int))) then
           letJ (fun ((t0_8,t15_7,t16_7,t18_7,t19_7,t23_2,t25_1,t26_1):Int × uc7 × uc18 × Int × Int × uc2 × Int × Int) =>
             some (Sum.inl (t0_8,t15_7,t16_7,t18_7,t19_7,t23_2,t25_1,(w (t26_1+1))))) fun j__5 =>
           bif (decide (0≤t26) && decide (t26 < (t23_1.2.2.2.2.2.length:Int))) then
            (d49 t16_6 (List.getD t23_1.2.2.2.2.2 (Int.toNat t26) 0)).bind fun r_15 =>
            bif r_15 then
             j__5 (t0_7,t15_6,t16_6,t18_6,t19_6,t23_1,(w (t25+1)),t26)
            else
             j__5 (t0_7,t15_6,t16_6,t18_6,t19_6,t23_1,t25,t26)
           else none
          else
           some (Sum.inr (t0_7,t15_6,t16_6,t18_6,t19_6,t23_1,t25))) (t0_6,t15_5,t16_5,t18_5,t19_5,t23,0,0)).bind fun ((t0_9,t15_8,t16_8,t18_8,t19_8,t23_3,t25_2):Int × uc7 × uc18 × Int × Int × uc2 × Int) =>
        bif (!decide ((w (t15_8.2.2.2.1+1))=0)) then
         (d21).bind fun r_16 =>
         bif r_16 then
          bif (decide ((t23_3.2.2.2.2.2.length:Int)=(bif (decide (t0_9 < t15_8.2.2.2.1)) then t0_9 else t15_8.2.2.2.1))) then
           bif (!decide ((w ((w (Int.tdiv t19_8 (w (t15_8.2.2.2.1+1))))+1))=0)) then
            some (decide ((bif (decide ((t16_8.length:Int) < (w (Int.tdiv t18_8 (w ((w (Int.tdiv t19_8 (w (t15_8.2.2.2.1+1))))+1)))))) then (t16_8.length:Int) else (w (Int.tdiv t18_8 (w ((w (Int.tdiv t19_8 (w (t15_8.2.2.2.1+1))))+1)))))≤t25_2))
           else none
          else
           some false
         else
          some false
        else none) fun j__4 =>
     bif !(!(decide (r_13.2=0))) then
      (d32 t0_5 r_13.1.2.2.2.2.2).bind fun r_14 =>
      j__4 (t0_5,t15_4,t16_4,t18_4,t19_4,r_13.1,!r_14)
     else
      j__4 (t0_5,t15_4,t16_4,t18_4,t19_4,r_13.1,true)
    else none) fun j_ =>
 (d20 p4).bind fun r =>
 bif !(!r) then
  (d20 p5).bind fun r_1 =>
  j_ (p0,p1,p2,p3,p4,p5,p6,!r_1)
 else
  j_ (p0,p1,p2,p3,p4,p5,p6,true)
noncomputable def d51 (n:Int):Option uc17 :=
 bif (decide (n=n) && (decide (0≤n) && decide (n≤LIM))) then
  (zaa (β:=uc17) (fun ((n_1,out,i):Int × uc17 × Int) =>
    bif (decide (i < n_1)) then
     bif (decide (0≤i) && decide (i < (out.length:Int))) then
      some (Sum.inl (n_1,(List.set out (Int.toNat i) true),(w (i+1))))
     else none
    else
     some (Sum.inr out)) (n,(List.replicate (Int.toNat n) false),0)).bind fun (out_1:List Bool) =>
  some out_1
 else none
def sg51:Sig:=⟨[(y2,.sh)],[(y48,(.own 4 .sh))]⟩
def plan51:Plan:=(.seq (.reg [] []) (.seq (.reg [] []) (.seq (.seq (.reg [] []) (.block (.loop [(0,.v y2 .sh),(3,.v y48 (.own 4 .sh)),(4,.v y2 .sh)] [(.brk 0,[(3,.v y48 (.own 4 .sh))])] (.seq (.seq (.reg [] []) (.cond .nil .nil)) (.seq (.block (.reg [] [])) (.reg [] [])))))) (.seq (.reg [] []) .nil))))
theorem ev51 (xs:Vals (ptys sg51.ps)):evF (P:=Tryz.prog) tab [] sg51 Tryz.f51.results.toList (code Tryz.f51) plan51 xs=d51 xs.1:=by kernel_rfl
theorem sim51:Sim Tryz.prog 51 sg51 d51:=zah mixd zan Tryz.func51 (zac rfl) Tryz.call51 (Nat.le_of_ble_eq_true (by kernel_rfl)) (by kernel_rfl) plan51 _ fun xs y h=>(ev51 xs).trans h
noncomputable def E51:FnE Tryz.prog:=⟨51,sg51,d51,sim51⟩
noncomputable def d103 (remain:List Bool) (i:Int):Option Bool :=
 bif (decide (i < (remain.length:Int))) then
  bif (decide (0≤i) && decide (i < (remain.length:Int))) then
   some (List.getD remain (Int.toNat i) false)
  else none
 else
  some false
def sg103:Sig:=⟨[(y48,.bw),(y2,.sh)],[(y4,.sh)]⟩
def plan103:Plan:=(.seq (.reg [] []) (.seq (.reg [] []) .nil))
theorem ev103 (xs:Vals (ptys sg103.ps)):evF (P:=Tryz.prog) tab [] sg103 Tryz.f103.results.toList (code Tryz.f103) plan103 xs=d103 xs.1 xs.2.1:=by kernel_rfl
theorem sim103:Sim Tryz.prog 103 sg103 d103:=zah mixd zan Tryz.func103 (zac rfl) Tryz.call103 (Nat.le_of_ble_eq_true (by kernel_rfl)) (by kernel_rfl) plan103 _ fun xs y h=>(ev103 xs).trans h
noncomputable def E103:FnE Tryz.prog:=⟨103,sg103,d103,sim103⟩
noncomputable def d102 (p:Int) (p1:List Bool):Option Bool :=
 (d103 p1 p).bind fun r =>
 some r
def sg102:Sig:=⟨[(y2,.bw),((.ptr y48),.bw)],[(y4,.sh)]⟩
def plan102:Plan:=(.seq (.reg [] []) (.seq (.reg [] []) .nil))
theorem ev102 (xs:Vals (ptys sg102.ps)):evF (P:=Tryz.prog) tab [.fn E103] sg102 Tryz.f102.results.toList (code Tryz.f102) plan102 xs=d102 xs.1 xs.2.1:=by kernel_rfl
theorem sim102:Sim Tryz.prog 102 sg102 d102:=zah mixd zan Tryz.func102 (zac rfl) Tryz.call102 (Nat.le_of_ble_eq_true (by kernel_rfl)) (by kernel_rfl) plan102 _ fun xs y h=>(ev102 xs).trans h
noncomputable def E102:FnE Tryz.prog:=⟨102,sg102,d102,sim102⟩
noncomputable def d50 (gs:List uc16) (remain:List Bool):Option (uc18 × Int) :=
 letJ (fun ((gs_1,remain_1,exhausted,t16):uc13 × uc17 × Int × Bool) =>
   bif t16 then
    some ([],0)
   else
    bif (decide ((remain_1.length:Int)=(remain_1.length:Int)) && (decide (0≤(remain_1.length:Int)) && decide ((remain_1.length:Int)≤LIM))) then
     (zaa (β:=(uc18 × Int)) (fun ((remain_2,votes,exhausted_1,t20,t21,t22):uc17 × uc18 × Int × uc13 × Int × Int) =>
       bif (decide (t22 < t21)) then
        letJ (fun ((remain_3,votes_1,exhausted_2,t20_1,t21_1,t22_1):uc17 × uc18 × Int × uc13 × Int × Int) =>
          some (Sum.inl (remain_3,votes_1,exhausted_2,t20_1,t21_1,(w (t22_1+1))))) fun j__1 =>
        bif (decide (0≤t22) && decide (t22 < (t20.length:Int))) then
         (d101 ((List.getD t20 (Int.toNat t22) ([],0)).1) (fun a=>d102 a remain_2)).bind fun r_1 =>
         bif (decide (r_1 < 0)) then
          j__1 (remain_2,votes,(w (exhausted_1+((List.getD t20 (Int.toNat t22) ([],0)).2))),t20,t21,t22)
         else
          bif (decide (0≤r_1) && decide (r_1 < (((List.getD t20 (Int.toNat t22) ([],0)).1).length:Int))) then
           bif (decide (0≤(List.getD ((List.getD t20 (Int.toNat t22) ([],0)).1) (Int.toNat r_1) 0)) && decide ((List.getD ((List.getD t20 (Int.toNat t22) ([],0)).1) (Int.toNat r_1) 0) < (votes.length:Int))) then
            bif (decide (0≤(List.getD ((List.getD t20 (Int.toNat t22) ([],0)).1) (Int.toNat r_1) 0)) && decide ((List.getD ((List.getD t20 (Int.toNat t22) ([],0)).1) (Int.toNat r_1) 0) < (votes.length:Int))) then
             j__1 (remain_2,(List.set votes (Int.toNat (List.getD ((List.getD t20 (Int.toNat t22) ([],0)).1) (Int.toNat r_1) 0)) (w ((List.getD votes (Int.toNat (List.getD ((List.getD t20 (Int.toNat t22) ([],0)).1) (Int.toNat r_1) 0)) 0)+((List.getD t20 (Int.toNat t22) ([],0)).2)))),exhausted_1,t20,t21,t22)
            else none
           else none
          else none
        else none
       else
        some (Sum.inr (votes,exhausted_1))) (remain_1,(List.replicate (Int.toNat (remain_1.length:Int)) 0),exhausted,gs_1,(gs_1.length:Int),0)).bind fun ((votes_2,exhausted_3):uc18 × Int) =>
     some (votes_2,exhausted_3)
    else none) fun j_ =>
 (d100 gs).bind fun r =>
 bif !(!r) then
  j_ (gs,remain,0,(decide (7 < (remain.length:Int))))
 else
  j_ (gs,remain,0,true)
def sg50:Sig:=⟨[(y25,.bw),(y48,.bw)],[(y26,.sh),(y2,.sh)]⟩
def plan50:Plan:=(.post (.seq (.reg [] []) (.seq (.join (.reg [] []) [(0,.v y25 .bw),(3,.v (.ptr y48) (.own 0 .bw)),(5,.v y2 .sh),(16,.v y4 .sh)] (.cond (.seq (.reg [] []) .nil) .nil)) (.seq (.reg [] []) (.seq (.seq (.reg [] []) (.block (.loop [(3,.v (.ptr y48) (.own 0 .bw)),(4,.v y26 (.own 3 .sh)),(5,.v y2 .sh),(20,.v y25 .bw),(21,.v y2 .sh),(22,.v y2 .sh)] [(.brk 0,[(4,.v y26 (.own 3 .sh)),(5,.v y2 .sh)])] (.seq (.reg [] []) (.seq (.cond .nil .nil) (.join (.block (.seq (.reg [] []) (.seq (.reg [] []) (.seq (.reg [] []) (.cond (.reg [] []) (.reg [] [])))))) [(3,.v (.ptr y48) (.own 0 .bw)),(4,.v y26 (.own 3 .sh)),(5,.v y2 .sh),(20,.v y25 .bw),(21,.v y2 .sh),(22,.v y2 .sh)] (.reg [] []))))))) (.seq (.reg [] []) .nil))))) [(4,[])])
theorem ev50 (xs:Vals (ptys sg50.ps)):evF (P:=Tryz.prog) tab [.fn E100,.fn E101,.fn E102] sg50 Tryz.f50.results.toList (code Tryz.f50) plan50 xs=d50 xs.1 xs.2.1:=by kernel_rfl
theorem sim50:Sim Tryz.prog 50 sg50 d50:=zah mixd zan Tryz.func50 (zac rfl) Tryz.call50 (Nat.le_of_ble_eq_true (by kernel_rfl)) (by kernel_rfl) plan50 _ fun xs y h=>(ev50 xs).trans h
noncomputable def E50:FnE Tryz.prog:=⟨50,sg50,d50,sim50⟩
noncomputable def d9 (p0:Int) (p1:Int) (p2:Int) (p3:Int) (p4:List uc18):Option Bool :=
 (d20 p4).bind fun r =>
 bif !r then
  (d21).bind fun r_1 =>
  some r_1
 else
  (d24 p0 7).bind fun r_2 =>
  (d31 (w (1+r_2)) p1 p2 p3 p4).bind fun r_3 =>
  (d51 (w (1+r_2))).bind fun r_4 =>
  (d50 r_3.2.1 r_4).bind fun r_5 =>
  letJ (fun ((t0,t11,t12,t13,t15,t56):Int × uc7 × uc13 × uc2 × uc18 × Bool) =>
    bif t56 then
     some false
    else
     (zaa (β:=Unit ⊕ Bool) (fun ((t0_1,t11_1,t12_1,t13_1,t15_1,t17):Int × uc7 × uc13 × uc2 × uc18 × Int) =>
       bif (decide (t17 < t0_1)) then
        letJ (fun ((t0_2,t11_2,t12_2,t13_2,t15_2,t17_1,t82):Int × uc7 × uc13 × uc2 × uc18 × Int × Bool) =>
          bif t82 then
           some (Sum.inr (Sum.inr false))
          else
           some (Sum.inl (t0_2,t11_2,t12_2,t13_2,t15_2,(w (t17_1+1))))) fun j__1 =>
        bif (decide (0≤t17) && decide (t17 < (t15_1.length:Int))) then
         (d52 t12_1).bind fun r_6 =>
         bif (decide (r_6 < (w ((w (t11_1.2.2.2.1+1)) * (List.getD t15_1 (Int.toNat t17) 0))))) then
          bif (decide (0≤0) && decide (0 < (t13_1.2.2.2.2.1.length:Int))) then
           (d49 (((((((List.getD t13_1.2.2.2.2.1 0 ([],[],(false,[],[]),(false,[],[]),(false,[],[]),[],[],[])).2).2).2).2).2).1) t17).bind fun r_7 =>
           j__1 (t0_1,t11_1,t12_1,t13_1,t15_1,t17,!r_7)
          else none
         else
          j__1 (t0_1,t11_1,t12_1,t13_1,t15_1,t17,false)
        else none
       else
        some (Sum.inr (Sum.inl ()))) (t0,t11,t12,t13,t15,0)).bind fun
     | Sum.inl _ =>
      (d21).bind fun r_8 =>
      some r_8
     | Sum.inr t10 =>
      some t10) fun j_ =>
  bif !(!(decide (r_3.2.2.2=0))) then
   bif !(decide ((r_3.2.2.1.2.2.2.2.1.length:Int) < 1)) then
    j_ ((w (1+r_2)),r_3.1,r_3.2.1,r_3.2.2.1,r_5.1,!(decide ((r_5.1.length:Int)=(w (1+r_2)))))
   else
    j_ ((w (1+r_2)),r_3.1,r_3.2.1,r_3.2.2.1,r_5.1,true)
  else
   j_ ((w (1+r_2)),r_3.1,r_3.2.1,r_3.2.2.1,r_5.1,true)
noncomputable def d106 (c:uc7) (gs:List uc16) (lots:List Int):Option uc6 :=
 bif (decide ((c.2.1.length:Int)=(c.2.1.length:Int)) && (decide (0≤(c.2.1.length:Int)) && decide ((c.2.1.length:Int)≤LIM))) then
  (zaa (β:=(uc13 × uc18 × uc7 × uc17)) (fun ((gs_1,lots_1,c_1,remain,t14,t15):uc13 × uc18 × uc7 × uc17 × Int × Int) =>
    bif (decide (t15 < t14)) then
     bif (decide (0≤t15) && decide (t15 < (remain.length:Int))) then
      some (Sum.inl (gs_1,lots_1,c_1,(List.set remain (Int.toNat t15) true),t14,(w (t15+1))))
     else none
    else
     some (Sum.inr (gs_1,lots_1,c_1,remain))) (gs,lots,c,(List.replicate (Int.toNat (c.2.1.length:Int)) false),((List.replicate (Int.toNat (c.2.1.length:Int)) false).length:Int),0)).bind fun ((gs_2,lots_2,c_2,remain_1):uc13 × uc18 × uc7 × uc17) =>
  some (c_2,gs_2,lots_2,remain_1,[])
 else none
noncomputable def d154 (l:List Int):Option uc10 :=
 (zaa (β:=uc10) (fun ((out,t6,t7,t8):uc10 × uc18 × Int × Int) =>
   bif (decide (t8 < t7)) then
    bif (decide (0≤t8) && decide (t8 < (t6.length:Int))) then
     (d68 (List.getD t6 (Int.toNat t8) 0)).bind fun r =>
     bif (decide ((out.length:Int)+(([r]:List uc12).length:Int)≤LIM)) then
      some (Sum.inl ((out++[r]),t6,t7,(w (t8+1))))
     else none
    else none
   else
    some (Sum.inr out)) ([],l,(l.length:Int),0)).bind fun (out_1:List uc12) =>
 some out_1
noncomputable def d107 (k:uc6) (votes:List Int) (exhausted:Int):Option uc3 :=
 (zaa (β:=(uc6 × uc18 × Int × uc5 × Int)) (fun ((k_1,votes_1,exhausted_1,r,sum,t14,t15,t16):uc6 × uc18 × Int × uc5 × Int × uc18 × Int × Int) =>
   bif (decide (t16 < t15)) then
    bif (decide (0≤t16) && decide (t16 < (t14.length:Int))) then
     some (Sum.inl (k_1,votes_1,exhausted_1,r,(w (sum+(List.getD t14 (Int.toNat t16) 0))),t14,t15,(w (t16+1))))
    else none
   else
    some (Sum.inr (k_1,votes_1,exhausted_1,r,sum))) (k,votes,exhausted,([],[],(false,[],[]),(false,[],[]),(false,[],[]),[],[],[]),0,votes,(votes.length:Int),0)).bind fun ((k_2,votes_2,exhausted_2,r_1,sum_1):uc6 × uc18 × Int × uc5 × Int) =>
 (d154 votes_2).bind fun r_2 =>
 (d68 (w ((w (Int.tdiv sum_1 2))+1))).bind fun r_3 =>
 (d68 exhausted_2).bind fun r_4 =>
 (d68 0).bind fun r_5 =>
 (zaa (β:=uc3) (fun ((r_6,quota,t38,t39,t40):uc5 × Int × uc17 × Int × Int) =>
   bif (decide (t40 < t39)) then
    bif (decide (0≤t40) && decide (t40 < (t38.length:Int))) then
     letJ (fun ((r_7,quota_1,keep,t38_1,t39_1,t40_1):uc5 × Int × Int × uc17 × Int × Int) =>
       (d68 keep).bind fun r_8 =>
       bif (decide ((r_7.2.1.length:Int)+(([r_8]:List uc12).length:Int)≤LIM)) then
        some (Sum.inl ((r_7.1,(r_7.2.1++[r_8]),r_7.2.2),quota_1,t38_1,t39_1,(w (t40_1+1))))
       else none) fun j_ =>
     bif (List.getD t38 (Int.toNat t40) false) then
      j_ (r_6,quota,1,t38,t39,t40)
     else
      j_ (r_6,quota,0,t38,t39,t40)
    else none
   else
    some (Sum.inr (r_6,quota))) ((r_2,[],r_3,r_4,r_5,[],[],[]),(w ((w (Int.tdiv sum_1 2))+1)),k_2.2.2.2.1,(k_2.2.2.2.1.length:Int),0)).bind fun ((r_9,quota_2):uc5 × Int) =>
 some (r_9,quota_2)
noncomputable def d108 (k:uc6):Option uc18 :=
 (zaa (β:=uc18) (fun ((out,t9,t10,t11):uc18 × uc17 × Int × Int) =>
   bif (decide (t11 < t10)) then
    letJ (fun ((out_1,t9_1,t10_1,t11_1):uc18 × uc17 × Int × Int) =>
      some (Sum.inl (out_1,t9_1,t10_1,(w (t11_1+1))))) fun j_ =>
    bif (decide (0≤t11) && decide (t11 < (t9.length:Int))) then
     bif (List.getD t9 (Int.toNat t11) false) then
      bif (decide ((out.length:Int)+(([t11]:List Int).length:Int)≤LIM)) then
       j_ ((out++[t11]),t9,t10,t11)
      else none
     else
      j_ (out,t9,t10,t11)
    else none
   else
    some (Sum.inr out)) ([],k.2.2.2.1,(k.2.2.2.1.length:Int),0)).bind fun (out_2:List Int) =>
 some out_2
noncomputable def d109 (c:Int) (p1:List Int) (p2:Int):Option Bool :=
 bif (decide (0≤c) && decide (c < (p1.length:Int))) then
  some (decide (p2≤(List.getD p1 (Int.toNat c) 0)))
 else none
noncomputable def d110 (p0:uc6) (p1:List Int):Option (Int × uc18 × uc6) :=
 (d108 p0).bind fun r =>
 (zaa (β:=(uc6 × uc18 × uc18)) (fun ((t0,t1,t5,t9,t10,t11):uc6 × uc18 × uc18 × uc18 × Int × Int) =>
   bif (decide (t11 < t10)) then
    letJ (fun ((t0_2,t1_2,t5_2,t9_2,t10_2,t11_2):uc6 × uc18 × uc18 × uc18 × Int × Int) =>
      some (Sum.inl (t0_2,t1_2,t5_2,t9_2,t10_2,(w (t11_2+1))))) fun j__1 =>
    bif (decide (0≤t11) && decide (t11 < (t9.length:Int))) then
     letJ (fun ((t0_1,t1_1,t5_1,t7,t9_1,t10_1,t11_1,t15):uc6 × uc18 × uc18 × Int × uc18 × Int × Int × Bool) =>
       bif t15 then
        j__1 (t0_1,t1_1,[t7],t9_1,t10_1,t11_1)
       else
        bif (decide (0≤t7) && decide (t7 < (t1_1.length:Int))) then
         bif (decide (0≤0) && decide (0 < (t5_1.length:Int))) then
          bif (decide (0≤(List.getD t5_1 0 0)) && decide ((List.getD t5_1 0 0) < (t1_1.length:Int))) then
           bif (decide ((List.getD t1_1 (Int.toNat t7) 0)=(List.getD t1_1 (Int.toNat (List.getD t5_1 0 0)) 0))) then
            bif (decide ((t5_1.length:Int)+(([t7]:List Int).length:Int)≤LIM)) then
             j__1 (t0_1,t1_1,(t5_1++[t7]),t9_1,t10_1,t11_1)
            else none
           else
            j__1 (t0_1,t1_1,t5_1,t9_1,t10_1,t11_1)
          else none
         else none
        else none) fun j_ =>
     bif !(decide ((t5.length:Int)=0)) then
      bif (decide (0≤(List.getD t9 (Int.toNat t11) 0)) && decide ((List.getD t9 (Int.toNat t11) 0) < (t1.length:Int))) then
       bif (decide (0≤0) && decide (0 < (t5.length:Int))) then
        bif (decide (0≤(List.getD t5 0 0)) && decide ((List.getD t5 0 0) < (t1.length:Int))) then
         j_ (t0,t1,t5,(List.getD t9 (Int.toNat t11) 0),t9,t10,t11,(decide ((List.getD t1 (Int.toNat (List.getD t9 (Int.toNat t11) 0)) 0) < (List.getD t1 (Int.toNat (List.getD t5 0 0)) 0))))
        else none
       else none
      else none
     else
      j_ (t0,t1,t5,(List.getD t9 (Int.toNat t11) 0),t9,t10,t11,true)
    else none
   else
    some (Sum.inr (t0,t1,t5))) (p0,p1,[],r,(r.length:Int),0)).bind fun ((t0_3,t1_3,t5_3):uc6 × uc18 × uc18) =>
 bif (decide (0≤0) && decide (0 < (t5_3.length:Int))) then
  letJ (fun ((t0_4,t1_4,t4,t5_4):uc6 × uc18 × Int × uc18) =>
    bif (decide (0≤t4) && decide (t4 < (t0_4.2.2.2.1.length:Int))) then
     (d154 t1_4).bind fun r_2 =>
     bif (decide ((t0_4.2.2.2.2.length:Int)+(([r_2]:List uc10).length:Int)≤LIM)) then
      some (t4,t5_4,(t0_4.1,t0_4.2.1,t0_4.2.2.1,(List.set t0_4.2.2.2.1 (Int.toNat t4) false),(t0_4.2.2.2.2++[r_2])))
     else none
    else none) fun j__2 =>
  bif (decide (1 < (t5_3.length:Int))) then
   (d155 t0_3.1.2.2.2.2.2.2.1 t0_3.2.2.2.2 t5_3 t0_3.2.2.1 true).bind fun r_1 =>
   j__2 ((t0_3.1,t0_3.2.1,t0_3.2.2.1,t0_3.2.2.2.1,r_1.2.2),t1_3,r_1.1,t5_3)
  else
   j__2 (t0_3,t1_3,(List.getD t5_3 0 0),[])
 else none
noncomputable def d53 (p0:uc7) (p1:List uc16) (p2:List Int):Option uc1 :=
 (d66 1 p0 p1 p2).bind fun r =>
 bif !(decide (r=0)) then
  some ((0,0,0,0,[],[]),r)
 else
  (d106 p0 p1 p2).bind fun r_1 =>
  (zaa (β:=uc1) (fun ((t1,t6,t9,t10):uc13 × uc2 × uc6 × uc2) =>
    (d50 t1 t9.2.2.2.1).bind fun r_2 =>
    (d107 t9 r_2.1 r_2.2).bind fun r_3 =>
    (d108 t9).bind fun r_4 =>
    (d101 r_4 (fun a=>d109 a r_2.1 r_3.2)).bind fun r_5 =>
    letJ (fun ((t1_1,t6_1,t9_1,t10_1,t11,t13,t15,t16):uc13 × uc2 × uc6 × uc2 × uc18 × uc5 × uc18 × Int) =>
      bif (decide (0≤t16)) then
       bif (decide (0≤t16) && decide (t16 < (t15.length:Int))) then
        bif (decide ((t10_1.2.2.2.2.1.length:Int)+(([(t13.1,t13.2.1,t13.2.2.1,t13.2.2.2.1,t13.2.2.2.2.1,[(List.getD t15 (Int.toNat t16) 0)],t13.2.2.2.2.2.2)]:List uc5).length:Int)≤LIM)) then
         bif (decide (0≤t16) && decide (t16 < (t15.length:Int))) then
          some (Sum.inr ((t10_1.1,t10_1.2.1,t10_1.2.2.1,t10_1.2.2.2.1,(t10_1.2.2.2.2.1++[(t13.1,t13.2.1,t13.2.2.1,t13.2.2.2.1,t13.2.2.2.2.1,[(List.getD t15 (Int.toNat t16) 0)],t13.2.2.2.2.2.2)]),[(List.getD t15 (Int.toNat t16) 0)]),0))
         else none
        else none
       else none
      else
       (d110 t9_1 t11).bind fun r_6 =>
       bif (decide ((t10_1.2.2.2.2.1.length:Int)+(([(t13.1,t13.2.1,t13.2.2.1,t13.2.2.2.1,t13.2.2.2.2.1,t13.2.2.2.2.2.1,[r_6.1],r_6.2.1)]:List uc5).length:Int)≤LIM)) then
        some (Sum.inl (t1_1,t6_1,r_6.2.2,(t10_1.1,t10_1.2.1,t10_1.2.2.1,t10_1.2.2.2.1,(t10_1.2.2.2.2.1++[(t13.1,t13.2.1,t13.2.2.1,t13.2.2.2.1,t13.2.2.2.2.1,t13.2.2.2.2.2.1,[r_6.1],r_6.2.1)]),t10_1.2.2.2.2.2)))
       else none) fun j_ =>
    bif (decide ((r_4.length:Int)=1)) then
     j_ (t1,t6,t9,t10,r_2.1,r_3.1,r_4,0)
    else
     j_ (t1,t6,t9,t10,r_2.1,r_3.1,r_4,r_5)) (p1,(0,0,0,0,[],[]),r_1,(1,1,0,(p0.2.1.length:Int),[],[]))).bind fun ((t6_2,t7):uc2 × Int) =>
  some (t6_2,t7)
noncomputable def d10 (p0:Int) (p1:Int) (p2:Int) (p3:List uc18):Option Bool :=
 (d20 p3).bind fun r =>
 bif !r then
  (d21).bind fun r_1 =>
  some r_1
 else
  (d24 p0 7).bind fun r_2 =>
  (d31 (w (1+r_2)) 0 p1 p2 p3).bind fun r_3 =>
  (d25 0 (w (1+r_2)) 0 0 p1).bind fun r_4 =>
  (d27 (w (1+r_2)) p2).bind fun r_5 =>
  (d53 r_4 r_3.2.1 r_5).bind fun r_6 =>
  (d21).bind fun r_7 =>
  bif r_7 then
   bif (decide (r_3.2.2.2=0)) then
    bif (decide (r_6.2=0)) then
     bif (decide ((r_3.2.2.1.2.2.2.2.2.length:Int)=1)) then
      (d38 r_3.2.2.1.2.2.2.2.2 r_6.1.2.2.2.2.2).bind fun r_8 =>
      some r_8
     else
      some false
    else
     some false
   else
    some false
  else
   some false
end Go.Proofs.YtmipjomnjkmdbaaGreat
set_option linter.unusedSimpArgs false
set_option linter.unusedVariables false
open Go Go.Proofs Go.X
namespace Go.Proofs.YtmipjomnjkmdbaaGreat
theorem w_id {n:Int} (h0:-9223372036854775808≤n) (h1:n≤9223372036854775807):w n=n:=IntWalk.i64_in n ⟨h0,h1⟩
theorem wt_int {n:Int} (h:WT (.int .i64) n):-9223372036854775808≤n∧n≤9223372036854775807:=by
  have h':IntKind.i64.wrap n=n:=h
  rw [IntKind.wrap_i64] at h'
  omega
theorem wt_len {l:List Int} (h:WT (.slice (.int .i64)) l):l.length≤281474976710656:=h.1
theorem while_up {α β:Type} {f:α→Option (α ⊕ β)} (st:Nat→α) {b:β}:∀ (n:Nat),(∀ i,i < n→f (st i)=some (.inl (st (i+1))))→f (st n)=some (.inr b)→zaa f (st 0)=some b:=by
  intro n hs he
  have key:∀ k,k≤n→zaa f (st (n - k))=some b:=by
    intro k
    induction k with
    | zero=>intro _; exact zec he
    | succ k ih =>
      intro hk
      have h1:=hs (n - (k+1)) (by omega)
      rw [show n - (k+1)+1=n - k by omega] at h1
      exact zhd h1 (ih (by omega))
  have:=key n (Nat.le_refl n)
  rwa [Nat.sub_self] at this
theorem zaf {α β γ:Type} {f:α→Option (α ⊕ β)} {k:β→Option γ} {a0:α} {b:β} {r:Option γ} (st:Nat→α) (n:Nat) (h0:st 0=a0) (hs:∀ i,i < n→f (st i)=some (.inl (st (i+1)))) (he:f (st n)=some (.inr b)) (hk:k b=r):(zaa f a0).bind k=r:=by
  rw [← h0,while_up st n hs he]
  exact hk
def zal (p:Int→Bool):List Int→Nat
  | []=>0
  | x::l=>if p x then 0 else zal p l+1
theorem zfl (p:Int→Bool):∀ l,zal p l≤l.length
  | []=>Nat.le_refl 0
  | x::l=>by
    unfold zal
    split
    · exact Nat.zero_le _
    · have:=zfl p l; simp; omega
theorem zda (p:Int→Bool):∀ l (i:Nat),i < zal p l→p (l.getD i 0)=false
  | [],i,h=>by simp [zal] at h
  | x::l,i,h=>by
    unfold zal at h
    split at h
    · omega
    · rename_i hx
      cases i with
      | zero=>simpa using hx
      | succ i =>
        have:=zda p l i (by omega)
        simpa using this
theorem zef (p:Int→Bool):∀ l,zal p l < l.length→p (l.getD (zal p l) 0)=true
  | [],h=>by simp at h
  | x::l,h=>by
    unfold zal at h ⊢
    split at h
    · rename_i hx; rw [if_pos hx]; simpa using hx
    · rename_i hx
      rw [if_neg hx]
      have:=zef p l (by simp at h; omega)
      simpa using this
theorem zhv (p:Int→Bool):∀ l,zal p l < l.length↔∃ x∈l,p x=true
  | []=>by simp [zal]
  | x::l=>by
    unfold zal
    by_cases hx:p x=true
    · rw [if_pos hx]; simp [hx]
    · rw [if_neg hx]
      have:=zhv p l
      simp [hx] at this ⊢
      exact this
theorem zhs {x n:Int} (hx:WT (.int .i64) x) (hn:0 < n) (hn':n≤4611686018427387904):d24 x n=some (x % n):=by
  have hx':=wt_int hx
  unfold d24
  have h0:n ≠ 0:=by omega
  have h1:-n < Int.tmod x n:=Int.lt_tmod_of_pos x hn
  have h2:Int.tmod x n < n:=Int.tmod_lt_of_pos x hn
  have h3:w (Int.tmod x n)=Int.tmod x n:=w_id (by omega) (by omega)
  have h4:w (Int.tmod x n+n)=Int.tmod x n+n:=w_id (by omega) (by omega)
  have h5:Int.tmod (Int.tmod x n+n) n=x % n:=by
    have h6:0≤Int.tmod x n+n:=by omega
    rw [Int.tmod_eq_emod_of_nonneg h6,Int.add_emod_right]
    rw [Int.tmod_eq_emod]
    split
    · simp
    · have:((n.natAbs:Int))=n:=Int.natAbs_of_nonneg (by omega)
      rw [this,Int.sub_emod_right]
      exact Int.emod_emod_of_dvd x (Int.dvd_refl n)
  have h7:w (x % n)=x % n:=w_id (by have:=Int.emod_nonneg x h0; omega) (by have:=Int.emod_lt_of_pos x hn; omega)
  simp [h0,h3,h4,h5,h7]
theorem zjp (x:Int) {n:Int} (hn:0 < n):0≤x % n∧x % n < n:=⟨Int.emod_nonneg x (by omega),Int.emod_lt_of_pos x hn⟩
theorem zpv {s:List Int} (v:Int) (hs:s.length≤281474976710656):d189 s v=some (if zal (fun x=>decide (v=x)) s < s.length then (zal (fun x=>decide (v=x)) s:Int) else -1):=by
  unfold d189
  have hle:=zfl (fun x=>decide (v=x)) s
  have hstep:∀ i,i < zal (fun x=>decide (v=x)) s→w ((i:Int)+1)=((i+1:Nat):Int):=fun i hi=>by rw [w_id (by omega) (by omega)]; omega
  by_cases h:zal (fun x=>decide (v=x)) s < s.length
  · have hat:=zef _ s h
    refine zaf (b:=.inr (zal (fun x=>decide (v=x)) s:Int)) (fun i=>(s,v,(s.length:Int),(i:Int))) (zal (fun x=>decide (v=x)) s) rfl ?_ ?_ (by simp [h])
    · intro i hi
      have h1:=zda _ s i hi
      have h2:(i:Int) < (s.length:Int):=by omega
      have h3:(0:Int)≤(i:Int):=by omega
      simp only [decide_eq_false_iff_not,List.getD_eq_getElem?_getD] at h1
      simp [h2,h3,h1,hstep i hi]
    · have h2:(zal (fun x=>decide (v=x)) s:Int) < (s.length:Int):=by omega
      have h3:(0:Int)≤(zal (fun x=>decide (v=x)) s:Int):=by omega
      simp only [decide_eq_true_eq,List.getD_eq_getElem?_getD] at hat
      simp [h2,h3,← hat]
  · refine zaf (b:=.inl ()) (fun i=>(s,v,(s.length:Int),(i:Int))) s.length rfl ?_ ?_ (by simp [h])
    · intro i hi
      have h1:=zda (fun x=>decide (v=x)) s i (by omega)
      have h2:(i:Int) < (s.length:Int):=by omega
      have h3:(0:Int)≤(i:Int):=by omega
      simp only [decide_eq_false_iff_not,List.getD_eq_getElem?_getD] at h1
      simp [h2,h3,h1,hstep i (by omega)]
    · simp
theorem zoe {l:List Int} (x:Int) (hs:l.length≤281474976710656):d49 l x=some (decide (x∈l)):=by
  unfold d49
  have hle:=zfl (fun y=>decide (y=x)) l
  have hm:=zhv (fun y=>decide (y=x)) l
  have hstep:∀ i,i < zal (fun y=>decide (y=x)) l→w ((i:Int)+1)=((i+1:Nat):Int):=fun i hi=>by rw [w_id (by omega) (by omega)]; omega
  by_cases h:zal (fun y=>decide (y=x)) l < l.length
  · have hat:=zef _ l h
    have hx:x∈l:=by obtain ⟨z,h1,h2⟩:=hm.1 h; have:=of_decide_eq_true h2; rw [← this]; exact h1
    refine zaf (b:=.inr true) (fun i=>(l,x,(i:Int))) (zal (fun y=>decide (y=x)) l) rfl ?_ ?_ (by simp [hx])
    · intro i hi
      have h1:=zda _ l i hi
      have h2:(i:Int) < (l.length:Int):=by omega
      have h3:(0:Int)≤(i:Int):=by omega
      simp only [decide_eq_false_iff_not,List.getD_eq_getElem?_getD] at h1
      simp [h2,h3,h1,hstep i hi]
    · have h2:(zal (fun y=>decide (y=x)) l:Int) < (l.length:Int):=by omega
      have h3:(0:Int)≤(zal (fun y=>decide (y=x)) l:Int):=by omega
      simp only [decide_eq_true_eq,List.getD_eq_getElem?_getD] at hat
      simp [h2,h3,hat]
  · have hx:x ∉ l:=fun hv=>h (hm.2 ⟨x,hv,by simp⟩)
    refine zaf (b:=.inl ()) (fun i=>(l,x,(i:Int))) l.length rfl ?_ ?_ (by simp [hx])
    · intro i hi
      have h1:=zda (fun y=>decide (y=x)) l i (by omega)
      have h2:(i:Int) < (l.length:Int):=by omega
      have h3:(0:Int)≤(i:Int):=by omega
      simp only [decide_eq_false_iff_not,List.getD_eq_getElem?_getD] at h1
      simp [h2,h3,h1,hstep i (by omega)]
    · simp
end Go.Proofs.YtmipjomnjkmdbaaGreat
set_option linter.unusedSimpArgs false
set_option linter.unusedVariables false
open Go Go.Proofs Go.X
namespace Go.Proofs.YtmipjomnjkmdbaaGreat
def zce (p:Nat→Bool):Nat→Nat
  | 0=>0
  | n+1=>if zce p n < n then zce p n else if p n then n else n+1
theorem zer (p:Nat→Bool):∀ n,zce p n≤n
  | 0=>Nat.le_refl 0
  | n+1=>by
    unfold zce
    have:=zer p n
    split
    · omega
    · split <;> omega
theorem zck (p:Nat→Bool):∀ n i,i < zce p n→p i=false
  | 0,i,h=>by simp [zce] at h
  | n+1,i,h=>by
    unfold zce at h
    have hle:=zer p n
    split at h
    · exact zck p n i h
    · split at h
      · rename_i h1 h2
        exact zck p n i (by omega)
      · rename_i h1 h2
        rcases Nat.lt_or_ge i n with h3 | h3
        · exact zck p n i (by omega)
        · have:i=n:=by omega
          subst this
          simpa using h2
theorem zes (p:Nat→Bool):∀ n,zce p n < n→p (zce p n)=true
  | 0,h=>by simp at h
  | n+1,h=>by
    unfold zce at h ⊢
    have hle:=zer p n
    split
    · rename_i h1; exact zes p n h1
    · rename_i h1
      rw [if_neg h1] at h
      split
      · rename_i h2; exact h2
      · rename_i h2; rw [if_neg h2] at h; omega
theorem znz (p:Nat→Bool) (n:Nat):¬ zce p n < n↔∀ i,i < n→p i=false:=by
  constructor
  · intro h i hi
    have:=zer p n
    exact zck p n i (by omega)
  · intro h hlt
    have:=zes p n hlt
    rw [h _ hlt] at this
    cases this
end Go.Proofs.YtmipjomnjkmdbaaGreat
set_option linter.unusedSimpArgs false
set_option linter.unusedVariables false
open Go Go.Proofs Go.X
namespace Go.Proofs.YtmipjomnjkmdbaaGreat
def zkg (l:List Int):Nat→List Bool
  | 0=>[false,false,false,false,false,false,false]
  | i+1=>(zkg l i).set (Int.toNat (l.getD i 0)) true
end Go.Proofs.YtmipjomnjkmdbaaGreat
set_option linter.unusedSimpArgs false
set_option linter.unusedVariables false
open Go Go.Proofs Go.X
namespace Go.Proofs.YtmipjomnjkmdbaaGreat
def outs (n:Int) (l:List Int):Nat→List Int
  | 0=>[]
  | i+1=>if l.getD i 0 % n∈outs n l i then outs n l i else outs n l i++[l.getD i 0 % n]
def bal (n:Int) (l:List Int):List Int:=outs n l (zce (fun i=>decide (n≤((outs n l i).length:Int))) l.length)
theorem outs_len (n:Int) (l:List Int):∀ i,(outs n l i).length≤i
  | 0=>Nat.le_refl 0
  | i+1=>by
    have:=outs_len n l i
    unfold outs
    split
    · omega
    · simp; omega
theorem outs_in {n:Int} (hn:0 < n) (l:List Int):∀ i,∀ x∈outs n l i,0≤x∧x < n
  | 0,x,hx=>by simp [outs] at hx
  | i+1,x,hx=>by
    unfold outs at hx
    split at hx
    · exact outs_in hn l i x hx
    · rcases List.mem_append.1 hx with hx | hx
      · exact outs_in hn l i x hx
      · simp at hx
        rw [hx]
        exact zjp _ hn
theorem zjm (n:Int) (l:List Int):∀ i,(outs n l i).Nodup
  | 0=>List.nodup_nil
  | i+1=>by
    unfold outs
    split
    · exact zjm n l i
    · rename_i h
      refine List.nodup_append.2 ⟨zjm n l i,by simp,fun x hx y hy=>?_⟩
      simp at hy
      rintro rfl
      exact h (by rw [List.getD_eq_getElem?_getD,← hy]; exact hx)
theorem d99_eq {n:Int} {l:List Int} (hn:0 < n) (hn':n≤1000) (hl:WT (.slice (.int .i64)) l):d99 n l=some (bal n l):=by
  unfold d99 bal
  have hlen:=wt_len hl
  have hle:=zer (fun i=>decide (n≤((outs n l i).length:Int))) l.length
  have hstep:∀ i:Nat,i < l.length→w ((i:Int)+1)=((i+1:Nat):Int):=fun i hi=>by rw [w_id (by omega) (by omega)]; omega
  refine zaf (b:=outs n l (zce (fun i=>decide (n≤((outs n l i).length:Int))) l.length)) (fun i=>(n,l,outs n l i,(i:Int))) (zce (fun i=>decide (n≤((outs n l i).length:Int))) l.length) rfl (fun i hi=>?_) ?_ rfl
  · have h1:=zck _ _ i hi
    simp only [decide_eq_false_iff_not] at h1
    have h1':((outs n l i).length:Int) < n:=by omega
    have h2:(i:Int) < (l.length:Int):=by omega
    have h3:(0:Int)≤(i:Int):=by omega
    have hx:WT (.int .i64) (l.getD i 0):=by
      rw [List.getD_eq_getElem?_getD,List.getElem?_eq_getElem (by omega)]
      exact hl.2 _ (List.getElem_mem _)
    have hlim:((outs n l i).length:Int)+(([l.getD i 0 % n]:List Int).length:Int)≤LIM:=by rw [zev]; simp; omega
    have ho:=outs_len n l i
    simp only [h2,h3,h1',decide_true,cond_true,Bool.and_self,letJ,Int.toNat_natCast,zhs hx hn (by omega),Option.bind_some,zoe (l:=outs n l i) _ (by omega),hstep i (by omega),hlim]
    have e:outs n l (i+1)=if l.getD i 0 % n∈outs n l i then outs n l i else outs n l i++[l.getD i 0 % n]:=rfl
    by_cases c:l.getD i 0 % n∈outs n l i
    · rw [if_pos c] at e
      simp only [c,e]; rfl
    · rw [if_neg c] at e
      simp only [c,e]; rfl
  · by_cases h:zce (fun i=>decide (n≤((outs n l i).length:Int))) l.length < l.length
    · have h1:=zes _ _ h
      simp only [decide_eq_true_eq] at h1
      have h1':¬ ((outs n l (zce (fun i=>decide (n≤((outs n l i).length:Int))) l.length)).length:Int) < n:=by omega
      have h2:((zce (fun i=>decide (n≤((outs n l i).length:Int))) l.length:Nat):Int) < (l.length:Int):=by omega
      simp only [h2,h1',letJ,decide_true,decide_false,cond_true,cond_false]
    · have h2:¬ ((zce (fun i=>decide (n≤((outs n l i).length:Int))) l.length:Nat):Int) < (l.length:Int):=by omega
      simp only [h2,letJ,decide_false,cond_false]
end Go.Proofs.YtmipjomnjkmdbaaGreat
set_option linter.unusedSimpArgs false
set_option linter.unusedVariables false
open Go Go.Proofs Go.X
namespace Go.Proofs.YtmipjomnjkmdbaaGreat
theorem zfq {α β γ:Type} {f:α→Option (α ⊕ β)} {k:β→Option γ} {a0:α} {r:Option γ} (st:Nat→α) (p:Nat→Bool) (n:Nat) (bx:Nat→β) (e:β) (h0:st 0=a0)
    (hs:∀ i,i < n→f (st i)=if p i then some (.inr (bx i)) else some (.inl (st (i+1)))) (he:f (st n)=some (.inr e))
    (h1:∀ i,i < n→p i=true→(∀ j,j < i→p j=false)→k (bx i)=r) (h2:(∀ i,i < n→p i=false)→k e=r):(zaa f a0).bind k=r:=by
  have hle:=zer p n
  by_cases h:zce p n < n
  · refine zaf (b:=bx (zce p n)) st (zce p n) h0 (fun i hi=>?_) ?_ (h1 _ h (zes p n h) (zck p n))
    · have:=hs i (by omega)
      rw [zck p n i hi] at this
      exact this
    · have:=hs _ h
      rw [zes p n h] at this
      exact this
  · have hall:=(znz p n).1 h
    refine zaf (b:=e) st n h0 (fun i hi=>?_) he (h2 hall)
    have:=hs i hi
    rw [hall i hi] at this
    exact this
theorem zbg {α:Type} (l:List α) (d:α) {i:Nat} (h:i < l.length):l.getD i d=l[i]:=by
  rw [List.getD_eq_getElem?_getD,List.getElem?_eq_getElem h,Option.getD_some]
def isB (n:Int) (l:List Int):Prop:=l.Nodup∧∀ x∈l,0≤x∧x < n
instance (n:Int) (l:List Int):Decidable (isB n l):=inferInstanceAs (Decidable (_∧_))
theorem zpl (n:Int) (l:List Int):isB n l↔∀ i,i < l.length→0≤l.getD i 0∧l.getD i 0 < n∧l.getD i 0 ∉ l.take i:=by
  constructor
  · rintro ⟨h1,h2⟩ i hi
    rw [zbg l 0 hi]
    refine ⟨(h2 _ (List.getElem_mem hi)).1,(h2 _ (List.getElem_mem hi)).2,fun hm=>?_⟩
    obtain ⟨j,hj,e⟩:=List.mem_take_iff_getElem.1 hm
    exact List.pairwise_iff_getElem.1 h1 j i (by omega) hi (by omega) e
  · intro h
    refine ⟨List.pairwise_iff_getElem.2 fun i j hi hj hij e=>?_,fun x hx=>?_⟩
    · have:=(h j hj).2.2
      rw [zbg l 0 hj,← e] at this
      exact this (List.mem_take_iff_getElem.2 ⟨i,by omega,rfl⟩)
    · obtain ⟨i,hi,rfl⟩:=List.getElem_of_mem hx
      have:=h i hi
      rw [zbg l 0 hi] at this
      exact ⟨this.1,this.2.1⟩
theorem znq (l:List Int):∀ i,(zkg l i).length=7
  | 0=>rfl
  | i+1=>by unfold zkg; rw [List.length_set]; exact znq l i
theorem zlu (l:List Int):∀ i,i≤l.length→(∀ j,j < i→0≤l.getD j 0∧l.getD j 0 < 7)→∀ c:Nat,c < 7→(zkg l i).getD c false=decide ((c:Int)∈l.take i)
  | 0,_,_,c,hc=>by
    have:c=0∨c=1∨c=2∨c=3∨c=4∨c=5∨c=6:=by omega
    rcases this with h | h | h | h | h | h | h <;> subst h <;> rfl
  | i+1,hi,hb,c,hc=>by
    have ih:=zlu l i (by omega) (fun j hj=>hb j (by omega)) c hc
    have hl:=znq l i
    have hx:=hb i (by omega)
    unfold zkg
    rw [Bool.eq_iff_iff,decide_eq_true_iff] at ih
    rw [Bool.eq_iff_iff,decide_eq_true_iff,List.getD_eq_getElem?_getD,List.getElem?_set,hl,List.take_add_one,List.mem_append,← ih,List.getElem?_eq_getElem (by omega:i < l.length)]
    rw [zbg l 0 (by omega:i < l.length)] at hx ⊢
    generalize l[i]=x at hx
    by_cases e:x.toNat=c
    · have e':(c:Int)=x:=by omega
      rw [if_pos e,if_pos (by omega)]
      simp [e']
    · have e':¬ (c:Int)=x:=by omega
      rw [if_neg e]
      simp [e',List.getD_eq_getElem?_getD]
theorem zjy {i n:Nat} (h:i≤n):zcf 0 (i:Int) n=true:=by
  unfold zcf
  simp only [Bool.and_eq_true,decide_eq_true_eq]
  omega
theorem d32_eq (n:Int) {l:List Int} (hl:l.length≤281474976710656):d32 n l=some (decide (isB n l)):=by
  unfold d32
  have hstep:∀ i:Nat,i < l.length→w ((i:Int)+1)=((i+1:Nat):Int):=fun i hi=>by rw [w_id (by omega) (by omega)]; omega
  refine zfq (fun i=>(n,l,(i:Int))) (fun i=>decide (l.getD i 0 < 0) || (decide (n≤l.getD i 0) || decide (l.getD i 0∈l.take i))) l.length (fun _=>.inr false) (.inl ()) rfl (fun i hi=>?_) ?_ (fun i hi hp hj=>?_) (fun hall=>?_)
  · have h2:(i:Int) < (l.length:Int):=by omega
    have h3:(0:Int)≤(i:Int):=by omega
    simp only [h2,h3,letJ,decide_true,cond_true,Bool.and_self,Int.toNat_natCast,hstep i hi,zjy (Nat.le_of_lt hi),List.drop_zero,zoe (l:=l.take i) _ (by simp; omega),Option.bind_some]
    by_cases c1:l.getD i 0 < 0
    · simp only [c1]; rfl
    · by_cases c2:n≤l.getD i 0
      · simp only [c1,c2]; rfl
      · by_cases c3:l.getD i 0∈l.take i
        · simp only [c1,c2,c3]; rfl
        · simp only [c1,c2,c3]; rfl
  · simp
  · have:¬ isB n l:=fun h=>by
      have:=(zpl n l).1 h i hi
      simp only [Bool.or_eq_true,decide_eq_true_eq] at hp
      rcases hp with hp | hp | hp
      · omega
      · omega
      · exact this.2.2 hp
    simp [this]
  · have:isB n l:=(zpl n l).2 fun i hi=>by
      have:=hall i hi
      simp only [Bool.or_eq_false_iff,decide_eq_false_iff_not] at this
      exact ⟨by omega,by omega,this.2.2⟩
    simp [this]
end Go.Proofs.YtmipjomnjkmdbaaGreat
set_option linter.unusedSimpArgs false
set_option linter.unusedVariables false
open Go Go.Proofs Go.X
namespace Go.Proofs.YtmipjomnjkmdbaaGreat
theorem while_first' {α β γ:Type} {f:α→Option (α ⊕ β)} {k:β→Option γ} {a0:α} {r:Option γ} (st:Nat→α) (p:Nat→Bool) (n:Nat) (bx:Nat→β) (e:β) (h0:st 0=a0)
    (hs:∀ i,i < n→(∀ j,j < i→p j=false)→f (st i)=if p i then some (.inr (bx i)) else some (.inl (st (i+1)))) (he:(∀ j,j < n→p j=false)→f (st n)=some (.inr e))
    (h1:∀ i,i < n→p i=true→(∀ j,j < i→p j=false)→k (bx i)=r) (h2:(∀ i,i < n→p i=false)→k e=r):(zaa f a0).bind k=r:=by
  have hle:=zer p n
  by_cases h:zce p n < n
  · refine zaf (b:=bx (zce p n)) st (zce p n) h0 (fun i hi=>?_) ?_ (h1 _ h (zes p n h) (zck p n))
    · have:=hs i (by omega) (fun j hj=>zck p n j (by omega))
      rw [zck p n i hi] at this
      exact this
    · have:=hs _ h (zck p n)
      rw [zes p n h] at this
      exact this
  · have hall:=(znz p n).1 h
    refine zaf (b:=e) st n h0 (fun i hi=>?_) (he hall) (h2 hall)
    have:=hs i hi (fun j hj=>hall j (by omega))
    rw [hall i hi] at this
    exact this
theorem lt_at:∀ (i:Nat) (a b:List Int),i < a.length→i < b.length→(∀ j,j < i→a.getD j 0=b.getD j 0)→a.getD i 0 ≠ b.getD i 0→(a < b↔a.getD i 0 < b.getD i 0)
  | _,[],_,h,_,_,_=>by simp at h
  | _,_::_,[],_,h,_,_=>by simp at h
  | 0,x::a,y::b,_,_,_,hne=>by
    rw [List.cons_lt_cons_iff]
    simp only [List.getD_cons_zero] at hne ⊢
    constructor
    · rintro (h | ⟨h,_⟩)
      · exact h
      · exact absurd h hne
    · exact .inl
  | i+1,x::a,y::b,h1,h2,h3,hne=>by
    rw [List.cons_lt_cons_iff]
    have h0:=h3 0 (by omega)
    simp only [List.getD_cons_zero] at h0
    subst h0
    simp only [List.getD_cons_succ] at hne ⊢
    have:=lt_at i a b (by simp at h1; omega) (by simp at h2; omega) (fun j hj=>by have:=h3 (j+1) (by omega); simpa using this) hne
    constructor
    · rintro (h | ⟨_,h⟩)
      · omega
      · exact this.1 h
    · exact fun h=>.inr ⟨by first | rfl | trivial,this.2 h⟩
theorem lt_end:∀ (a b:List Int),(∀ j,j < a.length→j < b.length→a.getD j 0=b.getD j 0)→(a < b↔a.length < b.length)
  | [],[],_=>by simp
  | [],y::b,_=>by simp
  | x::a,[],_=>by simp
  | x::a,y::b,h=>by
    have h0:=h 0 (by simp) (by simp)
    simp only [List.getD_cons_zero] at h0
    subst h0
    have:=lt_end a b fun j h1 h2=>by have:=h (j+1) (by simp; omega) (by simp; omega); simpa using this
    rw [List.cons_lt_cons_iff]
    simp only [List.length_cons,Nat.add_lt_add_iff_right]
    rw [← this]
    constructor
    · rintro (h | ⟨_,h⟩)
      · omega
      · exact h
    · exact fun h=>.inr ⟨by first | rfl | trivial,h⟩
theorem lex_tri:∀ (a b:List Int),a < b∨a=b∨b < a
  | [],[]=>.inr (.inl rfl)
  | [],y::b=>.inl (by simp)
  | x::a,[]=>.inr (.inr (by simp))
  | x::a,y::b=>by
    simp only [List.cons_lt_cons_iff]
    rcases Int.lt_trichotomy x y with h | h | h
    · exact .inl (.inl h)
    · subst h
      rcases lex_tri a b with h | h | h
      · exact .inl (.inr ⟨rfl,h⟩)
      · subst h; exact .inr (.inl rfl)
      · exact .inr (.inr (.inr ⟨rfl,h⟩))
    · exact .inr (.inr (.inl h))
theorem zee:∀ (a:List Int),¬ a < a
  | []=>by simp
  | x::a=>by
    rw [List.cons_lt_cons_iff]
    rintro (h | ⟨_,h⟩)
    · omega
    · exact zee a h
theorem zir:∀ {a b c:List Int},a < b→b < c→a < c
  | [],_,[],_,h=>by simp at h
  | [],_,z::c,_,_=>by simp
  | x::a,[],_,h,_=>by simp at h
  | x::a,y::b,[],_,h=>by simp at h
  | x::a,y::b,z::c,h1,h2=>by
    rw [List.cons_lt_cons_iff] at *
    rcases h1 with h1 | ⟨h1,h3⟩
    · rcases h2 with h2 | ⟨h2,_⟩
      · exact .inl (by omega)
      · exact .inl (by omega)
    · rcases h2 with h2 | ⟨h2,h4⟩
      · exact .inl (by omega)
      · exact .inr ⟨by omega,zir h3 h4⟩
theorem lex_asymm {a b:List Int} (h:a < b):¬ b < a:=fun h'=>zee a (zir h h')
theorem d97_eq {a b:List Int} (ha:a.length≤281474976710656) (hb:b.length≤281474976710656):d97 a b=some (decide (a < b)):=by
  unfold d97
  refine zfq (fun i=>(a,b,(i:Int))) (fun i=>!decide (a.getD i 0=b.getD i 0)) (min a.length b.length) (fun i=>.inr (decide (a.getD i 0 < b.getD i 0))) (.inl (a,b)) rfl (fun i hi=>?_) ?_ (fun i hi hp hj=>?_) (fun hall=>?_)
  · have h1:(i:Int) < (a.length:Int):=by omega
    have h2:(i:Int) < (b.length:Int):=by omega
    have h3:(0:Int)≤(i:Int):=by omega
    have hw:w ((i:Int)+1)=((i+1:Nat):Int):=by rw [w_id (by omega) (by omega)]; omega
    simp only [h1,h2,h3,hw,letJ,decide_true,cond_true,Bool.and_self,Int.toNat_natCast]
    by_cases c:a.getD i 0=b.getD i 0
    · simp only [c]; rfl
    · simp only [c]; rfl
  · simp only [letJ]
    by_cases c:a.length≤b.length
    · have h1:¬ ((min a.length b.length:Nat):Int) < (a.length:Int):=by omega
      simp only [h1,decide_false,cond_false]
    · have h1:((min a.length b.length:Nat):Int) < (a.length:Int):=by omega
      have h2:¬ ((min a.length b.length:Nat):Int) < (b.length:Int):=by omega
      simp only [h1,h2,decide_true,decide_false,cond_true,cond_false]
  · have hne:a.getD i 0 ≠ b.getD i 0:=by simpa using hp
    have:=lt_at i a b (by omega) (by omega) (fun j hj'=>by have:=hj j hj'; simpa using this) hne
    simp [this]
  · have:=lt_end a b fun j h1 h2=>by have:=hall j (by omega); simpa using this
    have e:((a.length:Int) < (b.length:Int))↔a < b:=by rw [this]; omega
    simp [e]
theorem d38_eq {a b:List Int} (ha:a.length≤281474976710656) (hb:b.length≤281474976710656):d38 a b=some (decide (a=b)):=by
  unfold d38
  rw [d97_eq ha hb,d97_eq hb ha]
  simp only [Option.bind_some]
  rcases lex_tri a b with h | h | h
  · have:a ≠ b:=fun e=>zee a (by rw [← e] at h; exact h)
    simp [h,this]
  · subst h
    simp [zee a]
  · have:a ≠ b:=fun e=>zee a (by rw [← e] at h; exact h)
    have h':=lex_asymm h
    simp [h,h',this]
theorem d198_eq (x y:Int):d198 x y=some (if x < y then -1 else if y < x then 1 else 0):=by
  unfold d198 d215
  by_cases h:x < y
  · simp [h]
  · by_cases h':y < x
    · simp [h,h']
    · simp [h,h']
def cmpL (a b:List Int):Int:=if a < b then -1 else if b < a then 1 else 0
theorem d166_eq {a b:List Int} (ha:a.length≤281474976710656) (hb:b.length≤281474976710656):d166 a b=some (cmpL a b):=by
  unfold d166 cmpL
  refine zfq (fun i=>(a,b,a,(a.length:Int),(i:Int))) (fun i=>decide (b.length≤i) || !decide (a.getD i 0=b.getD i 0)) a.length (fun i=>.inr (if b.length≤i then 1 else if a.getD i 0 < b.getD i 0 then -1 else 1)) (.inl (a,b)) rfl (fun i hi=>?_) ?_ (fun i hi hp hj=>?_) (fun hall=>?_)
  · have h1:(i:Int) < (a.length:Int):=by omega
    have h3:(0:Int)≤(i:Int):=by omega
    have hw:w ((i:Int)+1)=((i+1:Nat):Int):=by rw [w_id (by omega) (by omega)]; omega
    simp only [h1,h3,hw,decide_true,cond_true,Bool.and_self,Int.toNat_natCast,d198_eq,Option.bind_some]
    by_cases c0:b.length≤i
    · have h2:(b.length:Int)≤(i:Int):=by omega
      simp [h2,c0]
    · have h2:¬ (b.length:Int)≤(i:Int):=by omega
      have h4:(i:Int) < (b.length:Int):=by omega
      simp only [h2,h4,c0,decide_true,decide_false,cond_true,cond_false,if_false,Bool.false_or]
      rcases Int.lt_trichotomy (a.getD i 0) (b.getD i 0) with h | h | h
      · have h5:¬ a.getD i 0=b.getD i 0:=by omega
        simp only [h,h5,if_true]; rfl
      · have h5:¬ a.getD i 0 < b.getD i 0:=by omega
        have h6:¬ b.getD i 0 < a.getD i 0:=by omega
        simp only [h,if_false]; simp
      · have h5:¬ a.getD i 0=b.getD i 0:=by omega
        have h6:¬ a.getD i 0 < b.getD i 0:=by omega
        simp only [h,h5,h6,if_true,if_false]; rfl
  · simp
  · simp only [Option.some.injEq]
    by_cases c0:b.length≤i
    · have h1:=lt_end b a fun j h1 h2=>by
        have:=hj j (by omega)
        simp only [Bool.or_eq_false_iff,decide_eq_false_iff_not,Bool.not_eq_false',decide_eq_true_eq] at this
        exact this.2.symm
      have h2:b < a:=h1.2 (by omega)
      simp [c0,h2,lex_asymm h2]
    · have heq:∀ j,j < i→a.getD j 0=b.getD j 0:=fun j hj'=>by
        have:=hj j hj'
        simp only [Bool.or_eq_false_iff,decide_eq_false_iff_not,Bool.not_eq_false',decide_eq_true_eq] at this
        exact this.2
      have hne:a.getD i 0 ≠ b.getD i 0:=by simpa [c0] using hp
      have h1:=lt_at i a b hi (by omega) heq hne
      have h2:=lt_at i b a (by omega) hi (fun j hj'=>(heq j hj').symm) (Ne.symm hne)
      simp only [c0,if_false,h1,h2]
      by_cases c:a.getD i 0 < b.getD i 0
      · simp only [c,if_true]
      · have:b.getD i 0 < a.getD i 0:=by omega
        simp only [c,this,if_true,if_false]
  · have key:∀ j,j < a.length→j < b.length∧a.getD j 0=b.getD j 0:=fun j h1=>by
      have:=hall j h1
      simp only [Bool.or_eq_false_iff,decide_eq_false_iff_not,Bool.not_eq_false',decide_eq_true_eq] at this
      omega
    have h1:=lt_end a b fun j h1 h2=>(key j h1).2
    have h2:=lt_end b a fun j h1 h2=>(key j h2).2.symm
    have h3:a.length≤b.length:=by
      rcases Nat.eq_zero_or_pos a.length with h | h
      · omega
      · have:=(key (a.length - 1) (by omega)).1; omega
    have h4:¬ b < a:=by rw [h2]; omega
    simp only [h4,if_false]
    by_cases c:a < b
    · have:(a.length:Int) < (b.length:Int):=by have:=h1.1 c; omega
      simp [c,this]
    · have:¬ (a.length:Int) < (b.length:Int):=by rw [h1] at c; omega
      simp [c,this]
abbrev Grp:=List Int × Int
def addG:List Grp→List Int→Int→List Grp
  | [],p,k=>[(p,k)]
  | g::gs,p,k=>if g.1 < p then g::addG gs p k else if g.1=p then (g.1,g.2+k)::gs else (p,k)::g::gs
def zjc (gs:List Grp) (p:List Int):Bool:=gs.all fun g=>decide (g.1 < p)
theorem addG_app:∀ (gs:List Grp) (g:Grp) (p:List Int) (k:Int),addG (gs++[g]) p k=if zjc gs p then gs++addG [g] p k else addG gs p k++[g]
  | [],g,p,k=>by simp [zjc]
  | h::gs,g,p,k=>by
    have ih:=addG_app gs g p k
    unfold zjc at ih ⊢
    rw [List.cons_append]
    unfold addG
    by_cases c:h.1 < p
    · simp only [c,if_true,ih,List.all_cons,decide_true,Bool.true_and]
      by_cases c2:(gs.all fun g=>decide (g.1 < p))=true
      · rw [if_pos c2,if_pos c2]
        simp [addG]
      · rw [if_neg c2,if_neg c2]
        simp
    · by_cases c2:h.1=p
      · have:¬ h.1 < h.1:=zee _
        subst c2
        simp [this]
      · simp [c,c2]
theorem addG_all {gs:List Grp} {p:List Int} (k:Int) (h:zjc gs p=true):addG gs p k=gs++[(p,k)]:=by
  induction gs with
  | nil=>rfl
  | cons g gs ih =>
    unfold zjc at h ih
    simp only [List.all_cons,Bool.and_eq_true,decide_eq_true_eq] at h
    unfold addG
    simp only [h.1,if_true,ih h.2,List.cons_append]
theorem zib {α:Type} (l:List α) (d:α) {i:Nat} (h:i < l.length):l.take (i+1)=l.take i++[l.getD i d]:=by
  rw [List.take_add_one,List.getElem?_eq_getElem h,zbg l d h]
  rfl
theorem addG_len:∀ (gs:List Grp) (p:List Int) (k:Int),(addG gs p k).length≤gs.length+1
  | [],p,k=>by simp [addG]
  | g::gs,p,k=>by
    have:=addG_len gs p k
    unfold addG
    split
    · simp; omega
    · split <;> simp
theorem d98_eq {gs:List Grp} {p:List Int} {k:Int} (hl:gs.length≤1000000) (hp:p.length≤281474976710656) (hk:0≤k∧k≤1000000) (hg:∀ g∈gs,g.1.length≤281474976710656∧0≤g.2∧g.2≤1000000):d98 gs p k=some (addG gs p k):=by
  unfold d98
  refine zaf (b:=(p,k,(if zjc gs p then gs else addG gs p k),!zjc gs p)) (fun i=>(gs,p,k,(if zjc (gs.take i) p then gs.take i else addG (gs.take i) p k),!zjc (gs.take i) p,(i:Int))) gs.length rfl (fun i hi=>?_) ?_ ?_
  · have h1:(i:Int) < (gs.length:Int):=by omega
    have h3:(0:Int)≤(i:Int):=by omega
    have hw:w ((i:Int)+1)=((i+1:Nat):Int):=by rw [w_id (by omega) (by omega)]; omega
    have hm:gs.getD i ([],0)∈gs:=by rw [zbg gs _ hi]; exact List.getElem_mem _
    obtain ⟨g1,g2,g3⟩:=hg _ hm
    have ht:=zib gs ([],0) hi
    have hw2:w ((gs.getD i ([],0)).2+k)=(gs.getD i ([],0)).2+k:=w_id (by omega) (by omega)
    simp only [h1,h3,hw,letJ,decide_true,cond_true,Bool.and_self,Int.toNat_natCast]
    generalize gs.getD i ([],0)=g at *
    have hl1:(gs.take i).length≤1000000:=by simp; omega
    have hl2:=addG_len (gs.take i) p k
    have hlim:∀ (l:List Grp) (z:Grp),l.length≤1000002→((l.length:Int)+(([z]:List Grp).length:Int)≤LIM):=fun l z h=>by rw [zev]; simp; omega
    have happ:=addG_app (gs.take i) g p k
    have hall:zjc (gs.take i++[g]) p=(zjc (gs.take i) p && decide (g.1 < p)):=by simp [zjc]
    rw [ht,hall,happ]
    generalize gs.take i=T at *
    have e1:∀ z,((T.length:Int)+(([z]:List Grp).length:Int)≤LIM):=fun z=>hlim T z (by omega)
    have e2:∀ z,(((addG T p k).length:Int)+(([z]:List Grp).length:Int)≤LIM):=fun z=>hlim _ z (by omega)
    have e3:∀ z z',(((T++[z']).length:Int)+(([z]:List Grp).length:Int)≤LIM):=fun z z'=>hlim _ z (by simp; omega)
    simp only [d97_eq g1 hp,d38_eq g1 hp,Option.bind_some,hw2]
    cases hT:zjc T p
    · simp only [Bool.false_eq_true,if_false,e2,Bool.not_false,Bool.not_true,cond_false,Bool.false_and,decide_true,cond_true]
    · simp only [Bool.not_true,Bool.not_false,cond_true,Bool.true_and,if_true]
      by_cases c:g.1 < p
      · simp only [c,e1,decide_true,Bool.not_true,cond_false,cond_true,if_true]
      · by_cases c2:g.1=p
        · subst c2
          simp only [c,e1,decide_true,decide_false,Bool.not_false,cond_true,addG,if_true,if_false]
          simp
        · simp only [c,c2,e1,e3,decide_true,decide_false,Bool.not_false,cond_true,cond_false,addG,if_false]
          simp
  · have h1:¬ ((gs.length:Int) < (gs.length:Int)):=by omega
    simp only [h1,decide_false,cond_false,List.take_length]
  · cases hT:zjc gs p
    · simp [letJ]
    · have hlim:((gs.length:Int)+(([(p,k)]:List Grp).length:Int)≤LIM):=by rw [zev]; simp; omega
      simp only [Bool.not_true,Bool.not_false,cond_true,letJ,if_true,hlim,decide_true,addG_all k hT]
def wsum (f:List Int→Int):List Grp→Int
  | []=>0
  | g::gs=>g.2 * f g.1+wsum f gs
theorem zku (f:List Int→Int):∀ (a b:List Grp),wsum f (a++b)=wsum f a+wsum f b
  | [],b=>by simp [wsum]
  | g::a,b=>by
    have:=zku f a b
    simp only [List.cons_append,wsum,this]
    omega
theorem zle (f:List Int→Int):∀ (gs:List Grp) (p:List Int) (k:Int),wsum f (addG gs p k)=wsum f gs+k * f p
  | [],p,k=>by simp [addG,wsum]
  | g::gs,p,k=>by
    have ih:=zle f gs p k
    unfold addG
    split
    · simp only [wsum,ih]; omega
    · split
      · rename_i h
        simp only [wsum,h,Int.add_mul]; omega
      · simp only [wsum]; omega
theorem zqc:∀ {gs:List Grp} {p:List Int} {k:Int} {g:Grp},g∈addG gs p k→(g.1=p∧(g.2=k∨∃ h∈gs,h.1=p∧g.2=h.2+k))∨g∈gs
  | [],p,k,g,h=>by
    simp [addG] at h
    exact .inl ⟨by rw [h],.inl (by rw [h])⟩
  | a::gs,p,k,g,h=>by
    unfold addG at h
    split at h
    · rcases List.mem_cons.1 h with h | h
      · exact .inr (by simp [h])
      · rcases zqc h with ⟨h1,h2⟩ | h1
        · refine .inl ⟨h1,h2.imp id fun ⟨x,h3,h4⟩=>⟨x,List.mem_cons_of_mem _ h3,h4⟩⟩
        · exact .inr (List.mem_cons_of_mem _ h1)
    · split at h
      · rename_i hp
        rcases List.mem_cons.1 h with h | h
        · exact .inl ⟨by rw [h]; exact hp,.inr ⟨a,by simp,hp,by rw [h]⟩⟩
        · exact .inr (List.mem_cons_of_mem _ h)
      · rcases List.mem_cons.1 h with h | h
        · exact .inl ⟨by rw [h],.inl (by rw [h])⟩
        · exact .inr h
def zjk (gs:List Grp):Prop:=gs.Pairwise fun g h=>g.1 < h.1
theorem zna:∀ {gs:List Grp} (p:List Int) (k:Int),zjk gs→zjk (addG gs p k)
  | [],p,k,_=>by simp [addG,zjk]
  | a::gs,p,k,h=>by
    unfold zjk at h
    rw [List.pairwise_cons] at h
    unfold addG
    split
    · rename_i hlt
      refine List.pairwise_cons.2 ⟨fun g hg=>?_,zna p k h.2⟩
      rcases zqc hg with ⟨h1,_⟩ | h1
      · rw [h1]; exact hlt
      · exact h.1 g h1
    · rename_i hlt
      split
      · exact List.pairwise_cons.2 ⟨fun g hg=>h.1 g hg,h.2⟩
      · rename_i hne
        have hp:p < a.1:=by
          rcases lex_tri a.1 p with h | h | h
          · exact absurd h hlt
          · exact absurd h hne
          · exact h
        refine List.pairwise_cons.2 ⟨fun g hg=>?_,List.pairwise_cons.2 h⟩
        rcases List.mem_cons.1 hg with rfl | hg
        · exact hp
        · exact zir hp (h.1 g hg)
structure PileOK (n:Int) (gs:List Grp) (N:Int):Prop where
  ballots:∀ g∈gs,isB n g.1∧1≤g.2
  sorted:zjk gs
  total:wsum (fun _=>1) gs=N
  most:N≤100000
theorem zhb {n:Int}:∀ {gs:List Grp},(∀ g∈gs,isB n g.1∧1≤g.2)→∀ {f:List Int→Int},(∀ p,0≤f p∧f p≤1)→0≤wsum f gs∧wsum f gs≤wsum (fun _=>1) gs
  | [],_,f,_=>by simp [wsum]
  | g::gs,h,f,hf=>by
    have ih:=zhb (gs:=gs) (fun x hx=>h x (List.mem_cons_of_mem _ hx)) hf
    have h1:=(h g (by simp)).2
    have h2:=hf g.1
    have h3:0≤g.2 * f g.1:=Int.mul_nonneg (by omega) h2.1
    have h4:g.2 * f g.1≤g.2 * 1:=Int.mul_le_mul_of_nonneg_left h2.2 (by omega)
    simp only [wsum]
    omega
theorem zpd {n:Int}:∀ {gs:List Grp},(∀ g∈gs,isB n g.1∧1≤g.2)→∀ g∈gs,g.2≤wsum (fun _=>1) gs
  | [],_,g,hg=>by cases hg
  | a::gs,h,g,hg=>by
    have h0:=(zhb (n:=n) (gs:=gs) (fun x hx=>h x (List.mem_cons_of_mem _ hx)) (f:=fun _=>1) (fun _=>by omega)).1
    have h1:=(h a (by simp)).2
    simp only [wsum]
    rcases List.mem_cons.1 hg with rfl | hg
    · omega
    · have:=zpd (n:=n) (gs:=gs) (fun x hx=>h x (List.mem_cons_of_mem _ hx)) g hg
      omega
theorem zpc {n:Int}:∀ {gs:List Grp},(∀ g∈gs,isB n g.1∧1≤g.2)→(gs.length:Int)≤wsum (fun _=>1) gs
  | [],_=>by simp [wsum]
  | a::gs,h=>by
    have h1:=(h a (by simp)).2
    have:=zpc (n:=n) (gs:=gs) (fun x hx=>h x (List.mem_cons_of_mem _ hx))
    simp only [wsum,List.length_cons]
    omega
theorem zil:∀ (n:Nat) (l:List Int),l.Nodup→(∀ x∈l,0≤x∧x < (n:Int))→l.length≤n
  | 0,l,_,h=>by
    cases l with
    | nil=>simp
    | cons x l=>have:=h x (by simp); omega
  | n+1,l,hd,h=>by
    by_cases hm:(n:Int)∈l
    · have h1:=zil n (l.erase (n:Int)) (hd.erase _) fun x hx=>by
        have h2:=(hd.mem_erase_iff).1 hx
        have:=h x h2.2
        have:=h2.1
        omega
      rw [List.length_erase_of_mem hm] at h1
      omega
    · have:=zil n l hd fun x hx=>by
        have h1:=h x hx
        have:x ≠ (n:Int):=fun e=>hm (e ▸ hx)
        omega
      omega
theorem zmi {n:Int} {l:List Int} (h:isB n l) (hn:n≤7):l.length≤7:=zil 7 l h.1 fun x hx=>by have:=h.2 x hx; omega
theorem PileOK.add {n:Int} {gs:List Grp} {N:Int} (h:PileOK n gs N) {p:List Int} (hp:isB n p) (hN:N+1≤100000):PileOK n (addG gs p 1) (N+1) where
  ballots:=fun g hg=>by
    rcases zqc hg with ⟨h1,h2⟩ | h1
    · refine ⟨by rw [h1]; exact hp,?_⟩
      rcases h2 with h2 | ⟨x,hx,_,h2⟩
      · omega
      · have:=(h.ballots x hx).2; omega
    · exact h.ballots g h1
  sorted:=zna _ _ h.sorted
  total:=by rw [zle,h.total]; omega
  most:=hN
theorem PileOK.nil (n:Int):PileOK n [] 0:=⟨fun _ hg=>absurd hg (by simp),List.Pairwise.nil,rfl,by omega⟩
theorem PileOK.d98 {n:Int} {gs:List Grp} {N:Int} (h:PileOK n gs N) (hn:n≤7) {p:List Int} (hp:isB n p):d98 gs p 1=some (addG gs p 1):=by
  have h1:=zpc h.ballots
  have h2:=h.total
  have h3:=h.most
  refine d98_eq (by omega) (by have:=zmi hp hn; omega) (by omega) fun g hg=>?_
  have h4:=zpd h.ballots g hg
  have h5:=h.ballots g hg
  have:=zmi h5.1 hn
  omega
end Go.Proofs.YtmipjomnjkmdbaaGreat
set_option linter.unusedSimpArgs false
set_option linter.unusedVariables false
open Go Go.Proofs Go.X
namespace Go.Proofs.YtmipjomnjkmdbaaGreat
theorem d165_eq {n:Int} (hn:n≤7) {l:List Int} (hl:l.length≤281474976710656):d165 n l=some (decide (isB n l)):=by
  unfold d165
  refine zfq (fun i=>(n,zkg l i,l,(l.length:Int),(i:Int))) (fun i=>decide (l.getD i 0 < 0) || (decide (n≤l.getD i 0) || (zkg l i).getD (Int.toNat (l.getD i 0)) false)) l.length (fun _=>.inr false) (.inl ()) rfl (fun i hi=>?_) ?_ (fun i hi hp hj=>?_) (fun hall=>?_)
  · have h2:(i:Int) < (l.length:Int):=by omega
    have h3:(0:Int)≤(i:Int):=by omega
    have hw:w ((i:Int)+1)=((i+1:Nat):Int):=by rw [w_id (by omega) (by omega)]; omega
    simp only [h2,h3,letJ,decide_true,cond_true,Bool.and_self,Int.toNat_natCast,hw]
    by_cases c1:l.getD i 0 < 0
    · simp only [c1]; rfl
    · by_cases c2:n≤l.getD i 0
      · simp only [c1,c2]; rfl
      · have c3:0≤l.getD i 0:=by omega
        have c4:l.getD i 0 < 7:=by omega
        simp only [c1,c2,c3,c4]
        cases (zkg l i).getD (Int.toNat (l.getD i 0)) false <;> rfl
  · simp
  · have:¬ isB n l:=fun h=>by
      have hb:=(zpl n l).1 h
      have h1:=hb i hi
      have h2:=zlu l i (by omega) (fun j hj=>by have:=hb j (by omega); omega) (Int.toNat (l.getD i 0)) (by omega)
      rw [show ((l.getD i 0).toNat:Int)=l.getD i 0 by omega] at h2
      rw [h2] at hp
      simp only [Bool.or_eq_true,decide_eq_true_eq] at hp
      rcases hp with hp | hp | hp
      · omega
      · omega
      · exact h1.2.2 hp
    simp [this]
  · have hb:∀ i,i < l.length→0≤l.getD i 0∧l.getD i 0 < n:=fun i hi=>by
      have:=hall i hi
      simp only [Bool.or_eq_false_iff,decide_eq_false_iff_not] at this
      omega
    have:isB n l:=(zpl n l).2 fun i hi=>by
      have h1:=hb i hi
      have h0:=hall i hi
      simp only [Bool.or_eq_false_iff,decide_eq_false_iff_not] at h0
      have h2:=zlu l i (by omega) (fun j hj=>by have:=hb j (by omega); omega) (Int.toNat (l.getD i 0)) (by omega)
      rw [show ((l.getD i 0).toNat:Int)=l.getD i 0 by omega,h0.2.2] at h2
      exact ⟨h1.1,h1.2,fun hm=>of_decide_eq_false h2.symm hm⟩
    simp [this]
def tot (gs:List Grp) (i:Nat):Int:=wsum (fun _=>1) (gs.take i)
def badG (n:Int) (gs:List Grp) (i:Nat):Bool:=decide ((gs.getD i ([],0)).2 < 1) || (decide (100000 - tot gs i < (gs.getD i ([],0)).2) || (!decide (isB n (gs.getD i ([],0)).1) || (decide (0 < i) && decide (0≤cmpL (gs.getD (i - 1) ([],0)).1 (gs.getD i ([],0)).1))))
theorem zdb (f:List Int→Int) (gs:List Grp) {i:Nat} (h:i < gs.length):wsum f (gs.take (i+1))=wsum f (gs.take i)+(gs.getD i ([],0)).2 * f (gs.getD i ([],0)).1:=by
  rw [zib gs ([],0) h,zku]
  simp [wsum]
theorem zjg {n:Int} {gs:List Grp}:∀ {i:Nat},i≤gs.length→(∀ j,j < i→badG n gs j=false)→0≤tot gs i∧tot gs i≤100000
  | 0,_,_=>by simp [tot,wsum]
  | i+1,h,hb=>by
    have ih:=zjg (n:=n) (gs:=gs) (i:=i) (by omega) fun j hj=>hb j (by omega)
    have h1:=hb i (by omega)
    unfold badG at h1
    simp only [Bool.or_eq_false_iff,decide_eq_false_iff_not] at h1
    have h2:tot gs (i+1)=tot gs i+(gs.getD i ([],0)).2 * 1:=zdb _ gs (by omega)
    omega
theorem d124_eq {n:Int} (hn:n≤7) {gs:List Grp} (hl:gs.length≤281474976710656) (hg:∀ g∈gs,g.1.length≤281474976710656∧-9223372036854775808≤g.2∧g.2≤9223372036854775807):d124 n gs=some (decide (∀ i,i < gs.length→badG n gs i=false)):=by
  unfold d124
  have hgi:∀ i,i < gs.length→(gs.getD i ([],0)).1.length≤281474976710656:=fun i hi=>by
    rw [zbg gs _ hi]
    exact (hg _ (List.getElem_mem _)).1
  refine while_first' (fun i=>(n,gs,tot gs i,gs,(gs.length:Int),(i:Int))) (badG n gs) gs.length (fun _=>.inr false) (.inl ()) rfl (fun i hi hj=>?_) (fun _=>?_) (fun i hi hp hj=>?_) (fun hall=>?_)
  · have h2:(i:Int) < (gs.length:Int):=by omega
    have h3:(0:Int)≤(i:Int):=by omega
    have hw:w ((i:Int)+1)=((i+1:Nat):Int):=by rw [w_id (by omega) (by omega)]; omega
    have ht:=zjg (n:=n) (gs:=gs) (i:=i) (by omega) hj
    have hw2:w (100000 - tot gs i)=100000 - tot gs i:=w_id (by omega) (by omega)
    have hgl:=hgi i hi
    have hgp:=hgi (i - 1) (by omega)
    have hts:tot gs (i+1)=tot gs i+(gs.getD i ([],0)).2 * 1:=zdb _ gs (by omega)
    have hw3:1≤(gs.getD i ([],0)).2→(gs.getD i ([],0)).2≤100000 - tot gs i→w (tot gs i+(gs.getD i ([],0)).2)=tot gs (i+1):=fun a b=>by rw [w_id (by omega) (by omega)]; omega
    have hb:badG n gs i=(decide ((gs.getD i ([],0)).2 < 1) || (decide (100000 - tot gs i < (gs.getD i ([],0)).2) || (!decide (isB n (gs.getD i ([],0)).1) || (decide (0 < i) && decide (0≤cmpL (gs.getD (i - 1) ([],0)).1 (gs.getD i ([],0)).1))))):=rfl
    rw [hb]
    simp only [h2,h3,letJ,decide_true,cond_true,Bool.and_self,Int.toNat_natCast,hw,hw2]
    rw [d165_eq hn hgl]
    obtain ⟨g,hgd⟩:∃ g,gs.getD i ([],0)=g:=⟨_,rfl⟩
    simp only [hgd] at hgl hts hw3 ⊢
    by_cases c1:g.2 < 1
    · simp only [c1]; rfl
    · by_cases c2:100000 - tot gs i < g.2
      · simp only [c1,c2]; rfl
      · rw [hw3 (by omega) (by omega)]
        by_cases c3:isB n g.1
        · by_cases c4:0 < i
          · have c5:(0:Int) < (i:Int):=by omega
            have hwp:w ((i:Int) - 1)=((i - 1:Nat):Int):=by rw [w_id (by omega) (by omega)]; omega
            have h5:(0:Int)≤((i - 1:Nat):Int):=by omega
            have h6:((i - 1:Nat):Int) < (gs.length:Int):=by omega
            simp only [c1,c2,c3,c4,c5,hwp,h5,h6,Int.toNat_natCast,d166_eq hgp hgl,Option.bind_some,decide_true,decide_false,Bool.not_true,Bool.not_false,cond_true,cond_false,Bool.and_self,Bool.true_and,Bool.false_or]
            cases decide (0≤cmpL (gs.getD (i - 1) ([],0)).1 g.1) <;> rfl
          · have c5:¬ (0:Int) < (i:Int):=by omega
            simp only [c1,c2,c3,c4,c5]; rfl
        · simp only [c1,c2,c3]; rfl
  · simp
  · have:¬ ∀ i,i < gs.length→badG n gs i=false:=fun h=>by rw [h i hi] at hp; cases hp
    simp [this]
  · have:∀ i,i < gs.length→badG n gs i=false:=hall
    simp only [decide_eq_true this]
theorem PileOK.good {n:Int} {gs:List Grp} {N:Int} (h:PileOK n gs N):∀ i,i < gs.length→badG n gs i=false:=fun i hi=>by
  have hm:gs.getD i ([],0)∈gs:=by rw [zbg gs _ hi]; exact List.getElem_mem _
  have h1:=h.ballots _ hm
  have h2:tot gs (i+1)=tot gs i+(gs.getD i ([],0)).2 * 1:=zdb _ gs hi
  have h3:wsum (fun _=>1) gs=tot gs (i+1)+wsum (fun _=>1) (gs.drop (i+1)):=by
    unfold tot
    rw [← zku,List.take_append_drop]
  have h4:=(zhb (n:=n) (gs:=gs.drop (i+1)) (fun x hx=>h.ballots x (List.mem_of_mem_drop hx)) (f:=fun _=>1) (fun _=>by omega)).1
  have h5:=h.total
  have h6:=h.most
  unfold badG
  have c1:¬ (gs.getD i ([],0)).2 < 1:=by omega
  have c2:¬ 100000 - tot gs i < (gs.getD i ([],0)).2:=by omega
  simp only [c1,c2,h1.1,decide_true,decide_false,Bool.not_true,Bool.false_or]
  by_cases c3:0 < i
  · have h7:(gs.getD (i - 1) ([],0)).1 < (gs.getD i ([],0)).1:=by
      rw [zbg gs _ hi,zbg gs _ (by omega:i - 1 < gs.length)]
      exact List.pairwise_iff_getElem.1 h.sorted (i - 1) i (by omega) hi (by omega)
    have c4:cmpL (gs.getD (i - 1) ([],0)).1 (gs.getD i ([],0)).1=-1:=if_pos h7
    rw [c4]
    simp
  · simp [c3]
theorem PileOK.sizes {n:Int} {gs:List Grp} {N:Int} (h:PileOK n gs N) (hn:n≤7):gs.length≤100000∧∀ g∈gs,g.1.length≤7∧1≤g.2∧g.2≤100000:=by
  have h1:=zpc h.ballots
  have h2:=h.total
  have h3:=h.most
  refine ⟨by omega,fun g hg=>?_⟩
  have h4:=zpd h.ballots g hg
  have h5:=h.ballots g hg
  exact ⟨zmi h5.1 hn,by omega,by omega⟩
theorem PileOK.d124 {n:Int} {gs:List Grp} {N:Int} (h:PileOK n gs N) (hn:n≤7):d124 n gs=some true:=by
  obtain ⟨h1,h2⟩:=h.sizes hn
  rw [d124_eq hn (by omega) fun g hg=>by have:=h2 g hg; omega]
  rw [decide_eq_true h.good]
theorem PileOK.wide {n:Int} {gs:List Grp} {N:Int} (h:PileOK n gs N) (hn:n≤7):PileOK 7 gs N where
  ballots:=fun g hg=>by
    have:=h.ballots g hg
    exact ⟨⟨this.1.1,fun x hx=>by have:=this.1.2 x hx; omega⟩,this.2⟩
  sorted:=h.sorted
  total:=h.total
  most:=h.most
theorem PileOK.d100 {n:Int} {gs:List Grp} {N:Int} (h:PileOK n gs N) (hn:n≤7):d100 gs=some true:=by
  unfold Go.Proofs.YtmipjomnjkmdbaaGreat.d100
  rw [(h.wide hn).d124 (by omega)]
  rfl
theorem PileOK.part {n:Int} {gs:List Grp} {N:Int} (h:PileOK n gs N) {f:List Int→Int} (hf:∀ p,0≤f p∧f p≤1) (i:Nat):0≤wsum f (gs.take i)∧wsum f (gs.take i)≤100000:=by
  have h1:=zhb (n:=n) (gs:=gs.take i) (fun x hx=>h.ballots x (List.mem_of_mem_take hx)) hf
  have h2:=zhb (n:=n) (gs:=gs.drop i) (fun x hx=>h.ballots x (List.mem_of_mem_drop hx)) (f:=fun _=>1) (fun _=>by omega)
  have h3:wsum (fun _=>1) gs=wsum (fun _=>1) (gs.take i)+wsum (fun _=>1) (gs.drop i):=by rw [← zku,List.take_append_drop]
  have h4:=h.total
  have h5:=h.most
  omega
def zjt (c:Int) (p:List Int):Int:=if p ≠ []∧p.getD 0 0=c then 1 else 0
def zas (p:List Int):Int:=if p=[] then 0 else 1
theorem PileOK.d52 {n:Int} {gs:List Grp} {N:Int} (h:PileOK n gs N) (hn:n≤7):d52 gs=some (wsum zas gs):=by
  obtain ⟨hl,hg⟩:=h.sizes hn
  have hf:∀ p,0≤zas p∧zas p≤1:=fun p=>by unfold zas; split <;> omega
  unfold Go.Proofs.YtmipjomnjkmdbaaGreat.d52
  rw [h.d100 hn]
  simp only [Option.bind_some,Bool.not_true,cond_false]
  have:d104 gs (fun a=>d105 a)=some (wsum zas gs):=by
    unfold d104
    refine zaf (b:=wsum zas gs) (fun i=>(fun a=>d105 a,wsum zas (gs.take i),gs,(gs.length:Int),(i:Int))) gs.length rfl (fun i hi=>?_) ?_ rfl
    · have h2:(i:Int) < (gs.length:Int):=by omega
      have h3:(0:Int)≤(i:Int):=by omega
      have hw:w ((i:Int)+1)=((i+1:Nat):Int):=by rw [w_id (by omega) (by omega)]; omega
      have e:=zdb zas gs hi
      have b0:=h.part hf i
      have b1:=h.part hf (i+1)
      simp only [h2,h3,hw,decide_true,cond_true,Bool.and_self,Int.toNat_natCast]
      obtain ⟨g,hgd⟩:∃ g,gs.getD i ([],0)=g:=⟨_,rfl⟩
      simp only [hgd] at e ⊢
      obtain ⟨p,k⟩:=g
      unfold d105
      simp only at e ⊢
      match p with
      | [] =>
        have h0:zas []=0:=by simp [zas]
        rw [h0] at e
        have hw2:w (wsum zas (gs.take i)+0)=wsum zas (gs.take (i+1)):=by rw [w_id (by omega) (by omega)]; omega
        simp only [List.length_nil,Int.ofNat_zero,decide_true,cond_true,Option.bind_some,hw2]
      | y::p =>
        have h0:zas (y::p)=1:=by simp [zas]
        rw [h0] at e
        have h4:¬ ((((y::p).length:Nat):Int)=0):=by simp; omega
        have hw2:w (wsum zas (gs.take i)+k)=wsum zas (gs.take (i+1)):=by rw [w_id (by omega) (by omega)]; omega
        simp only [h4,decide_false,cond_false,Option.bind_some,hw2]
    · have h1:¬ ((gs.length:Int) < (gs.length:Int)):=by omega
      simp only [h1,decide_false,cond_false,List.take_length]
  rw [this]
  rfl
end Go.Proofs.YtmipjomnjkmdbaaGreat
set_option linter.unusedSimpArgs false
set_option linter.unusedVariables false
open Go Go.Proofs Go.X
namespace Go.Proofs.YtmipjomnjkmdbaaGreat
def rem (r:List Bool) (c:Int):Bool:=if c < (r.length:Int) then r.getD (Int.toNat c) false else false
theorem d102_eq (r:List Bool) {c:Int} (hc:0≤c):d102 c r=some (rem r c):=by
  unfold d102 d103 rem
  by_cases h:c < (r.length:Int)
  · simp only [h,hc,if_true,decide_true,cond_true,Bool.and_self,Option.bind_some]
  · simp only [h,if_false,decide_false,cond_false,Option.bind_some]
theorem d101_on {s:List Int} {f:Int→Option Bool} {g:Int→Bool} (hf:∀ c∈s,f c=some (g c)) (hs:s.length≤281474976710656):d101 s f=some (if zal g s < s.length then (zal g s:Int) else -1):=by
  have hle:=zfl g s
  unfold d101
  have hstep:∀ i,i < zal g s→w ((i:Int)+1)=((i+1:Nat):Int):=fun i hi=>by rw [w_id (by omega) (by omega)]; omega
  have hfi:∀ i,i < s.length→f (s.getD i 0)=some (g (s.getD i 0)):=fun i hi=>by rw [zbg s 0 hi]; exact hf _ (List.getElem_mem _)
  by_cases h:zal g s < s.length
  · have hat:=zef _ s h
    refine zaf (b:=.inr (zal g s:Int)) (fun i=>(s,f,(s.length:Int),(i:Int))) (zal g s) rfl ?_ ?_ (by simp [h])
    · intro i hi
      have h1:=zda g s i hi
      have h2:(i:Int) < (s.length:Int):=by omega
      have h3:(0:Int)≤(i:Int):=by omega
      simp only [h2,h3,decide_true,cond_true,Bool.and_self,Int.toNat_natCast,hfi i (by omega),h1,Option.bind_some,hstep i hi,cond_false]
    · have h2:(zal g s:Int) < (s.length:Int):=by omega
      have h3:(0:Int)≤(zal g s:Int):=by omega
      simp only [h2,h3,decide_true,cond_true,Bool.and_self,Int.toNat_natCast,hfi _ h,hat,Option.bind_some]
  · refine zaf (b:=.inl ()) (fun i=>(s,f,(s.length:Int),(i:Int))) s.length rfl ?_ ?_ (by simp [h])
    · intro i hi
      have h1:=zda g s i (by omega)
      have h2:(i:Int) < (s.length:Int):=by omega
      have h3:(0:Int)≤(i:Int):=by omega
      simp only [h2,h3,decide_true,cond_true,Bool.and_self,Int.toNat_natCast,hfi i (by omega),h1,Option.bind_some,hstep i (by omega),cond_false]
    · simp
def zgl (r:List Bool) (c:Int) (p:List Int):Int:=if zal (rem r) p < p.length∧p.getD (zal (rem r) p) 0=c then 1 else 0
def zbq (r:List Bool) (gs:List Grp):List Int:=(List.range r.length).map fun (c:Nat)=>wsum (zgl r (c:Int)) gs
theorem zhu (r:List Bool) (gs:List Grp):(zbq r gs).length=r.length:=by simp [zbq]
theorem zlg (r:List Bool) (gs:List Grp) {c:Nat} (h:c < r.length):(zbq r gs).getD c 0=wsum (zgl r (c:Int)) gs:=by
  rw [zbg _ _ (by rw [zhu]; exact h)]
  simp [zbq]
def zhn (r:List Bool) (p:List Int):Int:=if zal (rem r) p < p.length then 0 else 1
theorem PileOK.d50 {n:Int} {gs:List Grp} {N:Int} (h:PileOK n gs N) (hn:n≤7) {r:List Bool} (hr:r.length≤7):d50 gs r=some (zbq r gs,wsum (zhn r) gs):=by
  obtain ⟨hl,hg⟩:=h.sizes hn
  have hf:∀ c p,0≤zgl r c p∧zgl r c p≤1:=fun c p=>by unfold zgl; split <;> omega
  have hf0:∀ p,0≤zhn r p∧zhn r p≤1:=fun p=>by unfold zhn; split <;> omega
  unfold Go.Proofs.YtmipjomnjkmdbaaGreat.d50
  rw [h.d100 hn]
  have hr1:¬ (7:Int) < (r.length:Int):=by omega
  have hr2:(r.length:Int)≤LIM:=by rw [zev]; omega
  have hr3:(0:Int)≤(r.length:Int):=by omega
  simp only [Option.bind_some,Bool.not_true,Bool.not_false,cond_true,hr1,hr2,hr3,decide_true,decide_false,letJ,cond_false,Bool.and_self,Int.toNat_natCast]
  refine zaf (b:=(zbq r gs,wsum (zhn r) gs)) (fun i=>(r,zbq r (gs.take i),wsum (zhn r) (gs.take i),gs,(gs.length:Int),(i:Int))) gs.length ?_ (fun i hi=>?_) ?_ rfl
  · have:zbq r (gs.take 0)=List.replicate r.length 0:=by
      apply List.ext_getElem
      · simp [zbq]
      · intro i h1 h2
        simp [zbq,wsum]
    simp only [this]
    rfl
  · have h2:(i:Int) < (gs.length:Int):=by omega
    have h3:(0:Int)≤(i:Int):=by omega
    have hw:w ((i:Int)+1)=((i+1:Nat):Int):=by rw [w_id (by omega) (by omega)]; omega
    have e:∀ f,wsum f (gs.take (i+1))=wsum f (gs.take i)+(gs.getD i ([],0)).2 * f (gs.getD i ([],0)).1:=fun f=>zdb f gs hi
    have b0:=h.part hf0 i
    have b1:=h.part hf0 (i+1)
    have b2:=fun c=>h.part (hf c) i
    have b3:=fun c=>h.part (hf c) (i+1)
    have hm:gs.getD i ([],0)∈gs:=by rw [zbg gs _ hi]; exact List.getElem_mem _
    have hgl:=(hg _ hm).1
    have hgb:=(h.ballots _ hm).1
    simp only [h2,h3,hw,decide_true,cond_true,Bool.and_self,Int.toNat_natCast]
    obtain ⟨g,hgd⟩:∃ g,gs.getD i ([],0)=g:=⟨_,rfl⟩
    simp only [hgd] at e hgl hgb ⊢
    obtain ⟨p,k⟩:=g
    simp only at e hgl hgb ⊢
    rw [d101_on (g:=rem r) (fun c hc=>d102_eq r (hgb.2 c hc).1) (by omega)]
    simp only [Option.bind_some]
    by_cases c1:zal (rem r) p < p.length
    · have hx:=zef (rem r) p c1
      have c2:¬ (zal (rem r) p:Int) < 0:=by omega
      have c3:(0:Int)≤(zal (rem r) p:Int):=by omega
      have c4:(zal (rem r) p:Int) < (p.length:Int):=by omega
      have hxm:p.getD (zal (rem r) p) 0∈p:=by rw [zbg p 0 c1]; exact List.getElem_mem _
      have hx0:=(hgb.2 _ hxm).1
      simp only [c1,c2,c3,c4,if_true,decide_true,decide_false,cond_true,cond_false,Bool.and_self,Int.toNat_natCast]
      have ht:∀ c,zgl r c p=if p.getD (zal (rem r) p) 0=c then 1 else 0:=fun c=>by unfold zgl; simp only [c1,true_and]
      have hn0:zhn r p=0:=by unfold zhn; rw [if_pos c1]
      generalize p.getD (zal (rem r) p) 0=x at *
      have hxr:x < (r.length:Int):=by
        unfold rem at hx
        split at hx
        · assumption
        · cases hx
      have hv:(zbq r (gs.take i)).getD (Int.toNat x) 0=wsum (zgl r x) (gs.take i):=by
        rw [zlg r _ (by omega),show ((Int.toNat x:Nat):Int)=x by omega]
      have ex:=e (zgl r x)
      rw [ht x,if_pos rfl] at ex
      have bx0:=b2 x
      have bx1:=b3 x
      have hw2:w (wsum (zgl r x) (gs.take i)+k)=wsum (zgl r x) (gs.take (i+1)):=by rw [w_id (by omega) (by omega)]; omega
      have hset:(zbq r (gs.take i)).set (Int.toNat x) (wsum (zgl r x) (gs.take (i+1)))=zbq r (gs.take (i+1)):=by
        apply List.ext_getElem
        · simp [zbq]
        · intro j h1 h2
          rw [List.getElem_set]
          by_cases hj:Int.toNat x=j
          · rw [if_pos hj]
            simp only [zbq,List.getElem_map,List.getElem_range]
            rw [show (j:Int)=x by omega]
          · rw [if_neg hj]
            simp only [zbq,List.getElem_map,List.getElem_range]
            have ej:=e (zgl r (j:Int))
            rw [ht (j:Int),if_neg (by omega)] at ej
            omega
      have e0:=e (zhn r)
      rw [hn0] at e0
      have e0':wsum (zhn r) (gs.take (i+1))=wsum (zhn r) (gs.take i):=by omega
      simp only [zhu,hx0,hxr,decide_true,cond_true,Bool.and_self,hv,hw2,hset,e0']
    · have c2:(-1:Int) < 0:=by omega
      have hn1:zhn r p=1:=by unfold zhn; rw [if_neg c1]
      have e0:=e (zhn r)
      rw [hn1] at e0
      have hw2:w (wsum (zhn r) (gs.take i)+k)=wsum (zhn r) (gs.take (i+1)):=by rw [w_id (by omega) (by omega)]; omega
      have hv:zbq r (gs.take (i+1))=zbq r (gs.take i):=by
        unfold zbq
        refine List.map_congr_left fun c _=>?_
        have ec:=e (zgl r (c:Int))
        have:zgl r (c:Int) p=0:=by unfold zgl; simp only [c1,false_and,if_false]
        rw [this] at ec
        omega
      simp only [c1,c2,if_false,decide_true,cond_true,hw2,hv]
  · have h1:¬ ((gs.length:Int) < (gs.length:Int)):=by omega
    simp only [h1,decide_false,cond_false,List.take_length]
theorem znf {f g:List Int→Int}:∀ {gs:List Grp},(∀ x∈gs,f x.1=g x.1)→wsum f gs=wsum g gs
  | [],_=>rfl
  | a::gs,h=>by
    unfold wsum
    rw [h a (by simp),znf fun x hx=>h x (List.mem_cons_of_mem _ hx)]
end Go.Proofs.YtmipjomnjkmdbaaGreat
set_option linter.unusedSimpArgs false
set_option linter.unusedVariables false
open Go Go.Proofs Go.X
namespace Go.Proofs.YtmipjomnjkmdbaaGreat
theorem wt_part {l:List Int} (h:WT (.slice (.int .i64)) l) (k:Nat):WT (.slice (.int .i64)) (l.take k):=⟨by have:=h.1; simp; omega,fun x hx=>h.2 x (List.mem_of_mem_take hx)⟩
theorem bal_isB {n:Int} (hn:0 < n) (l:List Int):isB n (bal n l):=⟨zjm n l _,fun x hx=>outs_in hn l _ x hx⟩
def balF (n:Int) (x:List Int):List Int:=bal n (x.take 12)
def bals (n:Int) (l:List (List Int)) (most:Nat):List (List Int):=(l.take most).map (balF n)
theorem lim_small {α:Type} (l:List α) (z:α) (h:l.length≤1000000):((l.length:Int)+(([z]:List α).length:Int)≤LIM):=by rw [zev]; simp; omega
theorem d46_eq {n:Int} (hn:0 < n) (hn':n≤7) {l:List (List Int)} (hl:l.length≤281474976710656) (hw:∀ x∈l,WT (.slice (.int .i64)) x) {most:Nat} (hm:most≤100):d46 n l (most:Int)=some (bals n l most):=by
  unfold d46
  refine zaf (b:=bals n l most) (fun i=>(n,l,(most:Int),(l.take i).map (balF n),(i:Int))) (min l.length most) rfl (fun i hi=>?_) ?_ rfl
  · have h1:(i:Int) < (l.length:Int):=by omega
    have h2:(i:Int) < (most:Int):=by omega
    have h3:(0:Int)≤(i:Int):=by omega
    have hwi:w ((i:Int)+1)=((i+1:Nat):Int):=by rw [w_id (by omega) (by omega)]; omega
    have hx:=hw (l.getD i []) (by rw [zbg l [] (by omega)]; exact List.getElem_mem _)
    have ht:=zib l [] (by omega:i < l.length)
    simp only [h1,h2,h3,hwi,letJ,decide_true,cond_true,Bool.and_self,Int.toNat_natCast]
    obtain ⟨x,hxd⟩:∃ x,l.getD i []=x:=⟨_,rfl⟩
    simp only [hxd] at hx ht ⊢
    have hc:zcf 0 (bif decide (12 < (x.length:Int)) then 12 else (x.length:Int)) x.length=true∧List.drop 0 (List.take (Int.toNat (bif decide (12 < (x.length:Int)) then 12 else (x.length:Int))) x)=x.take 12:=by
      by_cases c:12 < x.length
      · have c':(12:Int) < (x.length:Int):=by omega
        simp only [c',decide_true,cond_true,List.drop_zero]
        exact ⟨zjy (i:=12) (by omega),rfl⟩
      · have c':¬ (12:Int) < (x.length:Int):=by omega
        simp only [c',decide_false,cond_false,List.drop_zero,Int.toNat_natCast]
        exact ⟨zjy (Nat.le_refl _),by rw [List.take_of_length_le (Nat.le_refl _),List.take_of_length_le (by omega)]⟩
    rw [hc.1,hc.2,d99_eq hn (by omega) (wt_part hx 12)]
    have hlim:=lim_small ((l.take i).map (balF n)) (bal n (x.take 12)) (by simp; omega)
    simp only [cond_true,Option.bind_some,hlim,decide_true,ht,List.map_append,List.map_cons,List.map_nil]
    rfl
  · have hb:(l.take (min l.length most)).map (balF n)=bals n l most:=by
      unfold bals
      congr 1
      by_cases c:l.length≤most
      · rw [Nat.min_eq_left c,List.take_of_length_le (Nat.le_refl _),List.take_of_length_le c]
      · rw [Nat.min_eq_right (by omega)]
    simp only [letJ,hb]
    by_cases c:l.length≤most
    · have h1:¬ ((min l.length most:Nat):Int) < (l.length:Int):=by omega
      simp only [h1,decide_false,cond_false]
    · have h1:((min l.length most:Nat):Int) < (l.length:Int):=by omega
      have h2:¬ ((min l.length most:Nat):Int) < (most:Int):=by omega
      simp only [h1,h2,decide_true,decide_false,cond_true,cond_false]
theorem bals_isB {n:Int} (hn:0 < n) {l:List (List Int)} {most:Nat}:∀ b∈bals n l most,isB n b:=fun b hb=>by
  obtain ⟨x,_,rfl⟩:=List.mem_map.1 hb
  exact bal_isB hn _
theorem bals_len {n:Int} {l:List (List Int)} {most:Nat}:(bals n l most).length≤most:=by simp [bals]; omega
def zcz (bs:List (List Int)):List Grp:=bs.foldl (fun gs b=>addG gs b 1) []
def bsum (f:List Int→Int):List (List Int)→Int
  | []=>0
  | b::bs=>f b+bsum f bs
theorem bsum_app (f:List Int→Int):∀ a b,bsum f (a++b)=bsum f a+bsum f b
  | [],b=>by simp [bsum]
  | x::a,b=>by have:=bsum_app f a b; simp only [List.cons_append,bsum,this]; omega
theorem zmb (bs:List (List Int)) (b:List Int):zcz (bs++[b])=addG (zcz bs) b 1:=by simp [zcz]
theorem zmc {n:Int} (bs:List (List Int)) (hb:∀ b∈bs,isB n b) (hl:bs.length≤100000):PileOK n (zcz bs) (bs.length:Int)∧∀ f,wsum f (zcz bs)=bsum f bs:=by
  have key:∀ k,k≤bs.length→PileOK n (zcz (bs.take k)) (k:Int)∧∀ f,wsum f (zcz (bs.take k))=bsum f (bs.take k):=by
    intro k
    induction k with
    | zero=>intro _; exact ⟨PileOK.nil n,fun f=>rfl⟩
    | succ k ih =>
      intro hk
      obtain ⟨h1,h2⟩:=ih (by omega)
      have ht:=zib bs [] (by omega:k < bs.length)
      have hm:=hb (bs.getD k []) (by rw [zbg bs [] (by omega)]; exact List.getElem_mem _)
      rw [ht,zmb]
      refine ⟨?_,fun f=>by rw [zle,h2 f,bsum_app]; simp [bsum]⟩
      have:=h1.add hm (by omega)
      rwa [show (k:Int)+1=((k+1:Nat):Int) by omega] at this
  have:=key bs.length (Nat.le_refl _)
  rwa [List.take_length] at this
theorem d48_eq {n:Int} (h1:1≤n) (hn:n≤7) {bs:List (List Int)} (hb:∀ b∈bs,isB n b) (hl:bs.length≤100000):d48 n bs=some (zcz bs,0):=by
  unfold d48 letJ
  have c1:¬ n < 1:=by omega
  have c2:¬ 7 < n:=by omega
  have c3:¬ (100000:Int) < (bs.length:Int):=by omega
  simp only [c1,c2,c3,decide_false,Bool.not_false,cond_true,cond_false]
  refine zaf (b:=.inl (zcz bs)) (fun i=>(n,bs,zcz (bs.take i),(i:Int))) bs.length rfl (fun i hi=>?_) ?_ rfl
  · have h2:(i:Int) < (bs.length:Int):=by omega
    have h3:(0:Int)≤(i:Int):=by omega
    have hwi:w ((i:Int)+1)=((i+1:Nat):Int):=by rw [w_id (by omega) (by omega)]; omega
    have hm:=hb (bs.getD i []) (by rw [zbg bs [] hi]; exact List.getElem_mem _)
    have hbl:=zmi hm hn
    have ht:=zib bs [] hi
    have hp:=(zmc (bs.take i) (fun b h=>hb b (List.mem_of_mem_take h)) (by simp; omega)).1
    simp only [h2,h3,hwi,decide_true,cond_true,Bool.and_self,Int.toNat_natCast,ht,zmb]
    obtain ⟨x,hxd⟩:∃ x,bs.getD i []=x:=⟨_,rfl⟩
    simp only [hxd] at hm hbl ⊢
    have hlim:(([]:List Int).length:Int)+(x.length:Int)≤LIM:=by rw [zev]; simp; omega
    rw [d32_eq n (by omega),hp.d98 hn hm]
    simp only [hm,hlim,decide_true,cond_true,Bool.not_true,cond_false,Option.bind_some]
  · have h1:¬ ((bs.length:Int) < (bs.length:Int)):=by omega
    simp only [h1,decide_false,cond_false,List.take_length]
theorem d26_eq {n:Int} (h1:1≤n) (hn:n≤7) {l:List (List Int)} (hl:l.length≤281474976710656) (hw:∀ x∈l,WT (.slice (.int .i64)) x) {most:Nat} (hm:most≤100):d26 n l (most:Int)=some (zcz (bals n l most)):=by
  have hbl:=bals_len (n:=n) (l:=l) (most:=most)
  unfold d26
  rw [d46_eq (by omega) hn hl hw hm]
  simp only [Option.bind_some]
  rw [d48_eq h1 hn (bals_isB (by omega)) (by omega)]
  rfl
end Go.Proofs.YtmipjomnjkmdbaaGreat
set_option linter.unusedSimpArgs false
set_option linter.unusedVariables false
open Go Go.Proofs Go.X
namespace Go.Proofs.YtmipjomnjkmdbaaGreat
def GsOK (gs:List Grp):Prop:=gs.length≤281474976710656∧∀ g∈gs,g.1.length≤281474976710656∧-9223372036854775808≤g.2∧g.2≤9223372036854775807
def goodP (n:Int) (gs:List Grp):Bool:=decide (∀ i,i < gs.length→badG n gs i=false)
def zpe (n:Int) (gs:List Grp):Bool:=decide (1≤n∧n≤7) && goodP n gs
theorem cmpL_lt (a b:List Int):decide (0≤cmpL a b)=!decide (a < b):=by
  unfold cmpL
  by_cases h:a < b
  · simp [h]
  · by_cases h':b < a
    · simp [h,h']
    · simp [h,h']
theorem good_tot {n:Int} {gs:List Grp} (h:∀ i,i < gs.length→badG n gs i=false):PileOK n gs (wsum (fun _=>1) gs) where
  ballots:=fun g hg=>by
    obtain ⟨i,hi,rfl⟩:=List.getElem_of_mem hg
    have:=h i hi
    unfold badG at this
    rw [zbg gs _ hi] at this
    simp only [Bool.or_eq_false_iff,decide_eq_false_iff_not,Bool.not_eq_false',decide_eq_true_eq] at this
    exact ⟨this.2.2.1,by omega⟩
  sorted:=by
    have step:∀ i,i+1 < gs.length→(gs.getD i ([],0)).1 < (gs.getD (i+1) ([],0)).1:=fun i hi=>by
      have:=h (i+1) hi
      unfold badG at this
      simp only [Bool.or_eq_false_iff] at this
      have:=this.2.2.2
      rw [cmpL_lt] at this
      simpa using this
    refine List.pairwise_iff_getElem.2 fun i j hi hj hij=>?_
    have key:∀ k,i+k+1 < gs.length→(gs.getD i ([],0)).1 < (gs.getD (i+k+1) ([],0)).1:=by
      intro k
      induction k with
      | zero=>intro hk; exact step i hk
      | succ k ih =>
        intro hk
        exact zir (ih (by omega)) (step (i+k+1) (by omega))
    have:=key (j - i - 1) (by omega)
    rw [show i+(j - i - 1)+1=j by omega,zbg gs _ hi,zbg gs _ hj] at this
    exact this
  total:=rfl
  most:=by
    have:=(zjg (n:=n) (gs:=gs) (i:=gs.length) (Nat.le_refl _) fun j hj=>h j hj).2
    unfold tot at this
    rwa [List.take_length] at this
theorem pileB_ok {n:Int} {gs:List Grp} (h:zpe n gs=true):1≤n∧n≤7∧PileOK n gs (wsum (fun _=>1) gs):=by
  unfold zpe at h
  simp only [Bool.and_eq_true,decide_eq_true_eq] at h
  exact ⟨h.1.1,h.1.2,good_tot (of_decide_eq_true h.2)⟩
theorem PileOK.gs {n:Int} {gs:List Grp} {N:Int} (h:PileOK n gs N) (hn:n≤7):GsOK gs:=by
  obtain ⟨h1,h2⟩:=h.sizes hn
  exact ⟨by omega,fun g hg=>by have:=h2 g hg; omega⟩
def zha (n:Nat):Nat→List Bool
  | 0=>List.replicate n false
  | i+1=>(zha n i).set i true
theorem zeu (n:Nat):∀ i,(zha n i).length=n
  | 0=>by simp [zha]
  | i+1=>by unfold zha; rw [List.length_set]; exact zeu n i
theorem allOf_get (n:Nat) {c:Nat} (hc:c < n):∀ i,i≤n→(zha n i).getD c false=decide (c < i)
  | 0,_=>by
    unfold zha
    rw [zbg _ _ (by simp; omega)]
    simp
  | i+1,hi=>by
    have ih:=allOf_get n hc i (by omega)
    have hl:=zeu n i
    rw [show zha n (i+1)=(zha n i).set i true from rfl,List.getD_eq_getElem?_getD,List.getElem?_set,hl]
    by_cases e:i=c
    · rw [if_pos e,if_pos (by omega)]
      have:c < i+1:=by omega
      simp [this]
    · rw [if_neg e,← List.getD_eq_getElem?_getD,ih]
      rw [decide_eq_decide]
      omega
theorem d51_eq {n:Int} (h1:0≤n) (hn:n≤7):d51 n=some (zha n.toNat n.toNat):=by
  have hnn:((n.toNat:Nat):Int)=n:=by omega
  unfold d51
  have l1:n≤LIM:=by rw [zev]; omega
  simp only [l1,h1,decide_true,Bool.and_self,cond_true]
  refine zaf (b:=zha n.toNat n.toNat) (fun i=>(n,zha n.toNat i,(i:Int))) n.toNat rfl (fun i hi=>?_) ?_ rfl
  · have h2:(i:Int) < n:=by omega
    have h3:(0:Int)≤(i:Int):=by omega
    have h4:(i:Int) < (n.toNat:Int):=by omega
    have hw:w ((i:Int)+1)=((i+1:Nat):Int):=by rw [w_id (by omega) (by omega)]; omega
    simp only [h2,h3,h4,hw,decide_true,cond_true,Bool.and_self,Int.toNat_natCast,zeu]
    rfl
  · have h1:¬ (((n.toNat:Nat):Int) < n):=by omega
    simp only [h1,decide_false,cond_false]
theorem rem_all {n:Int} (hn:0≤n) {c:Int} (hc:0≤c∧c < n):rem (zha n.toNat n.toNat) c=true:=by
  unfold rem
  rw [zeu,if_pos (by omega),allOf_get n.toNat (by omega) n.toNat (Nat.le_refl _)]
  simp
  omega
theorem top_all {n:Int} (hn:0≤n) {p:List Int} (hp:isB n p) (c:Int):zgl (zha n.toNat n.toNat) c p=zjt c p:=by
  unfold zgl zjt
  match p,hp with
  | [],_=>simp [zal]
  | y::p,hp =>
    have hy:=rem_all hn (hp.2 y (by simp))
    unfold zal
    simp [hy]
end Go.Proofs.YtmipjomnjkmdbaaGreat
