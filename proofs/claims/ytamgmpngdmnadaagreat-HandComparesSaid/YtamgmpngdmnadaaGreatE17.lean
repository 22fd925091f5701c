/- Part 17 of what stands below the statement. -/
import Derived.Test.YtamgmpngdmnadaaGreatE16
set_option linter.unusedSimpArgs false
set_option linter.unusedVariables false
namespace Go.Proofs.YtamgmpngdmnadaaGreat
open Go Go.X
def permB(n:Int)(lots:List Int):Bool:=decide ((lots.length:Int)=n)&&decide (isB n lots)
def fitE(m:Int)(c:CT)(gs:List Grp)(lots:List Int):Int:=
 bif decide (m<1)||(decide (3<m)|| !decide (c.2.2.1=m))then 5
 else bif decide ((c.2.1.length:Int)<1)||(decide (7<(c.2.1.length:Int))||(decide (c.2.2.2.1<1)||(decide (5<c.2.2.2.1)||((decide (m=1)&& !decide (c.2.2.2.1=1))||(!(bif decide (m=2)then decide (1≤c.2.2.2.2.2.1)&&decide (c.2.2.2.2.2.1≤6)else decide (c.2.2.2.2.2.1=0))||(decide (c.2.2.2.2.2.2.1<1)||decide (3<c.2.2.2.2.2.2.1)))))))then 4
 else bif !zse (c.2.1.length:Int) gs then 8
 else bif !permB (c.2.1.length:Int) lots then 13
 else 0
set_option maxHeartbeats 2000000 in
theorem d66_eq(m:Int)(c:CT){gs:List Grp}{lots:List Int}(hg:GsOK gs)(hl:lots.length≤281474976710656):d66 m c gs lots=some (fitE m c gs lots):=by
 have hp:decide ((c.2.1.length:Int)<1)=false→decide (7<(c.2.1.length:Int))=false→d133 (c.2.1.length:Int) gs=some (zse (c.2.1.length:Int) gs):=fun h1 h2=>by
  have h1:=xdf h1
  have h2:=xdf h2
  rw[d133_eq (by omega) hg.1 hg.2]
  unfold zse goodP
  rw[decide_eq_true (show 1≤(c.2.1.length:Int)∧(c.2.1.length:Int)≤7 by omega)];rfl
 have hq:decide (7<(c.2.1.length:Int))=false→d134 lots (c.2.1.length:Int)=some (permB (c.2.1.length:Int) lots):=fun h2=>by
  have h2:=xdf h2
  unfold d134 permB
  by_cases h:(lots.length:Int)=(c.2.1.length:Int)
  ·rw[decide_eq_true h,cond_true,d77_eq (by omega) hl];rfl
  ·rw[decide_eq_false h];rfl
 unfold d66 fitE
 cases he2:decide (m=2)<;>cases hg1:decide (1≤c.2.2.2.2.2.1)<;>simp only[he2,hg1,xam,xak,cond_true,xac,xcm,xbg,Bool.or_true,xbz,xbj,xbu,Option.bind_some]
 all_goals
  rw[zal]
  cases ha1:decide (m<1)
  case true=>simp only[ha1,zal,xam,xak,cond_true,xac,xcm,xbg,Bool.or_true,xbz,xbj,xbu,Option.bind_some]
  try simp only[ha1,xam,xak,cond_true,xac,xcm,xbg,Bool.or_true,xbz,xbj,xbu,Option.bind_some]
  cases ha2:decide (3<m)
  case true=>simp only[ha2,zal,xam,xak,cond_true,xac,xcm,xbg,Bool.or_true,xbz,xbj,xbu,Option.bind_some]
  try simp only[ha2,xam,xak,cond_true,xac,xcm,xbg,Bool.or_true,xbz,xbj,xbu,Option.bind_some]
  cases ha3:decide (c.2.2.1=m)
  case false=>simp only[ha3,zal,xam,xak,cond_true,xac,xcm,xbg,Bool.or_true,xbz,xbj,xbu,Option.bind_some]
  try simp only[ha3,xam,xak,cond_true,xac,xcm,xbg,Bool.or_true,xbz,xbj,xbu,Option.bind_some]
  rw[zal]
  try simp only[xam,xak,cond_true,xac,xcm,xbg,Bool.or_true,xbz,xbj,xbu,Option.bind_some]
  cases hn1:decide ((c.2.1.length:Int)<1)
  case true=>simp only[hn1,zal,xam,xak,cond_true,xac,xcm,xbg,Bool.or_true,xbz,xbj,xbu,Option.bind_some]
  try simp only[hn1,xam,xak,cond_true,xac,xcm,xbg,Bool.or_true,xbz,xbj,xbu,Option.bind_some]
  cases hn2:decide (7<(c.2.1.length:Int))
  case true=>simp only[hn2,zal,xam,xak,cond_true,xac,xcm,xbg,Bool.or_true,xbz,xbj,xbu,Option.bind_some]
  try simp only[hn2,xam,xak,cond_true,xac,xcm,xbg,Bool.or_true,xbz,xbj,xbu,Option.bind_some]
  simp only[zal,hp hn1 hn2,hq hn2,xam,xak,cond_true,xac,xcm,xbg,Bool.or_true,xbz,xbj,xbu,Option.bind_some]
  cases hs1:decide (c.2.2.2.1<1)
  case true=>simp only[hs1,zal,xam,xak,cond_true,xac,xcm,xbg,Bool.or_true,xbz,xbj,xbu,Option.bind_some]
  try simp only[hs1,xam,xak,cond_true,xac,xcm,xbg,Bool.or_true,xbz,xbj,xbu,Option.bind_some]
  cases hs2:decide (5<c.2.2.2.1)
  case true=>simp only[hs2,zal,xam,xak,cond_true,xac,xcm,xbg,Bool.or_true,xbz,xbj,xbu,Option.bind_some]
  try simp only[hs2,xam,xak,cond_true,xac,xcm,xbg,Bool.or_true,xbz,xbj,xbu,Option.bind_some]
  cases hm1:decide (m=1)<;>cases hso:decide (c.2.2.2.1=1)<;>simp only[hm1,hso,xam,xak,cond_true,xac,xcm,xbg,Bool.or_true,xbz,xbj,xbu,Option.bind_some]
  all_goals (try (cases hg2:decide (c.2.2.2.2.2.1≤6)<;>simp only[hg2,xam,xak,cond_true,xac,xcm,xbg,Bool.or_true,xbz,xbj,xbu,Option.bind_some]))
  all_goals (try (cases hg0:decide (c.2.2.2.2.2.1=0)<;>simp only[hg0,xam,xak,cond_true,xac,xcm,xbg,Bool.or_true,xbz,xbj,xbu,Option.bind_some]))
  all_goals (try (cases ht1:decide (c.2.2.2.2.2.2.1<1)<;>simp only[ht1,xam,xak,cond_true,xac,xcm,xbg,Bool.or_true,xbz,xbj,xbu,Option.bind_some]))
  all_goals (try (cases ht2:decide (3<c.2.2.2.2.2.2.1)<;>simp only[ht2,xam,xak,cond_true,xac,xcm,xbg,Bool.or_true,xbz,xbj,xbu,Option.bind_some]))
  all_goals (try (cases zse (c.2.1.length:Int) gs<;>simp only[xam,xak,cond_true,xac,xcm,xbg,Bool.or_true,xbz,xbj,xbu,Option.bind_some]))
  all_goals (try (cases permB (c.2.1.length:Int) lots<;>simp only[xam,xak,cond_true,xac,xcm,xbg,Bool.or_true,xbz,xbj,xbu,Option.bind_some]))
theorem zii{m:Int}{c:CT}{gs:List Grp}{lots:List Int}(h:fitE m c gs lots=0):1≤m∧m≤3∧c.2.2.1=m∧1≤c.2.1.length∧c.2.1.length≤7∧1≤c.2.2.2.1∧c.2.2.2.1≤5∧(m=1→c.2.2.2.1=1)∧(m=2→1≤c.2.2.2.2.2.1∧c.2.2.2.2.2.1≤6)∧(m≠2→c.2.2.2.2.2.1=0)∧1≤c.2.2.2.2.2.2.1∧c.2.2.2.2.2.2.1≤3∧PileOK (c.2.1.length:Int) gs (wsum (fun _=>1) gs)∧lots.length=c.2.1.length∧isB (c.2.1.length:Int) lots:=by
 unfold fitE at h
 by_cases h1:(decide (m<1)||(decide (3<m)|| !decide (c.2.2.1=m)))=true
 ·rw[h1]at h;exact absurd h (by show ¬(5:Int)=0;omega)
 have h1:(decide (m<1)||(decide (3<m)|| !decide (c.2.2.1=m)))=false:=by simpa using h1
 rw[h1,xac]at h
 cases h2:(decide ((c.2.1.length:Int)<1)||(decide (7<(c.2.1.length:Int))||(decide (c.2.2.2.1<1)||(decide (5<c.2.2.2.1)||((decide (m=1)&& !decide (c.2.2.2.1=1))||(!(bif decide (m=2)then decide (1≤c.2.2.2.2.2.1)&&decide (c.2.2.2.2.2.1≤6)else decide (c.2.2.2.2.2.1=0))||(decide (c.2.2.2.2.2.2.1<1)||decide (3<c.2.2.2.2.2.2.1))))))))
 case true=>rw[h2]at h;exact absurd h (by show ¬(4:Int)=0;omega)
 rw[h2,xac]at h
 cases h3:zse (c.2.1.length:Int) gs
 case false=>rw[h3]at h;exact absurd h (by show ¬(8:Int)=0;omega)
 rw[h3,xam,xac]at h
 cases h4:permB (c.2.1.length:Int) lots
 case false=>rw[h4]at h;exact absurd h (by show ¬(13:Int)=0;omega)
 simp only[xbw,xaw,xff,xag]at h1 h2
 obtain⟨a1,a2,a3⟩:=h1
 obtain⟨b1,b2,b3,b4,b5,b6,b7,b8⟩:=h2
 unfold permB at h4
 simp only[xaf,xag]at h4
 refine⟨by omega,by omega,a3,by omega,by omega,by omega,by omega,fun hm=>?_,fun hm=>?_,fun hm=>?_,by omega,by omega,(pileB_ok h3).2.2,by omega,h4.2⟩
 ·rw[decide_eq_true hm,xbj,xff,xag]at b5
  exact b5
 ·rw[decide_eq_true hm,cond_true,xaf,xag,xag]at b6
  exact b6
 ·rw[decide_eq_false hm,xac,xag]at b6
  exact b6
theorem d91_eq{b s:Int}(h0:0≤b)(h1:b≤100000)(h2:1≤s)(h3:s≤5):d91 b s=some (b/(s+1)+1):=by
 have e:w (s+1)=s+1:=zbj (by omega) (by omega)
 have hd:Int.tdiv b (s+1)=b/(s+1):=xej h0
 have hle:b/(s+1)≤b:=Int.ediv_le_self _ h0
 have hge:0≤b/(s+1):=Int.ediv_nonneg h0 (by omega)
 unfold d91
 rw[zal]
 simp only[decide_eq_false (show ¬b<0 by omega),decide_eq_false (show ¬100000<b by omega),decide_eq_false (show ¬s<1 by omega),decide_eq_false (show ¬5<s by omega),xak,cond_true,xac,e,decide_eq_false (show ¬s+1=0 by omega),hd]
 rw[zbj (n:=b/(s+1)) (by omega) (by omega),zbj (by omega) (by omega)]
theorem PileOK.d90{n:Int}{gs:List Grp}{N:Int}(h:PileOK n gs N)(hn:n≤7):d90 gs=some (wsum (fun _=>1) gs):=by
 obtain⟨hl,hg⟩:=h.sizes hn
 have hf:∀p:List Int,0≤(1:Int)∧(1:Int)≤1:=fun p=>by omega
 unfold Go.Proofs.YtamgmpngdmnadaaGreat.d90
 rw[h.d146 hn]
 simp only[Option.bind_some,xam,xac]
 have:d161 gs (fun a=>d162 a)=some (wsum (fun _=>1) gs):=by
  unfold d161
  refine zac (b:=wsum (fun _=>1) gs) (fun i=>((fun a=>d162 a),wsum (fun _=>1) (gs.take i),gs,(gs.length:Int),(i:Int))) gs.length rfl (fun i hi=>?_) ?_ rfl
  ·have h1:=h.part hf (i+1)
   rw[zdp _ gs hi]at h1
   simp only[dlt hi,d0le,xad,cond_true,tn,d162,Option.bind_some,zav (show i<9223372036854775807 by omega)]
   rw[zbj (by omega) (by omega),zdp _ gs hi,Int.mul_one]
  ·simp only[nlt (Nat.le_refl gs.length),xac,xay]
 rw[this];rfl
def gpOf(c:CT)(gs:List Grp)(lots:List Int):GP:=
 {gs:=gs,n:=c.2.1.length,seats:=c.2.2.2.1.toNat,q:=(wsum zbb gs/(c.2.2.2.1+1)+1).toNat,tot:=(wsum (fun _=>1) gs).toNat,ties:=c.2.2.2.2.2.2.1,lots:=lots}
theorem zjo{n:Int}{gs:List Grp}{N:Int}(h:PileOK n gs N)(b:List Int→Bool)(c:CT)(lots:List Int):∀m,m≤gs.length→wsum (fun p=>if b p then 1 else 0) (gs.take m)=((sumN (fun g=>if b ((gpOf c gs lots).p g)then(gpOf c gs lots).k g else 0) m:Nat):Int)
 | 0,_=>rfl
 |m+1,hm=>by
  have hb:=(h.ballots _ (zbi (l:=gs) (d:=([],0)) (i:=m) (by omega))).2
  rw[zdp _ gs (by omega),zjo h b c lots m (by omega),sumN,Int.natCast_add]
  congr 1
  show _*(if b (gs.getD m ([],0)).1 then 1 else 0)=((if b (gs.getD m ([],0)).1 then(gs.getD m ([],0)).2.toNat else 0:Nat):Int)
  split
  ·rw[Int.mul_one];omega
  ·rw[Int.mul_zero];rfl
theorem quo_lt{m s:Nat}(h1:1≤s)(h5:s≤5):m<(m/(s+1)+1)*(s+1):=by
 have:s=1∨s=2∨s=3∨s=4∨s=5:=by omega
 rcases this with rfl|rfl|rfl|rfl|rfl<;>omega
theorem gpOf_ok{c:CT}{gs:List Grp}{lots:List Int}(h:fitE 3 c gs lots=0):(gpOf c gs lots).OK∧(gpOf c gs lots).G≤1000000∧c.2.2.2.1=((gpOf c gs lots).seats:Int)∧d90 gs=some ((gpOf c gs lots).tot:Int)∧d92 gs=some (wsum zbb gs)∧d91 (wsum zbb gs) c.2.2.2.1=some ((gpOf c gs lots).q:Int):=by
 obtain⟨_,_,_,n1,n7,s1,s5,_,_,_,t1,t3,hp,ll,hB⟩:=zii h
 obtain⟨hl,hg⟩:=hp.sizes (by omega)
 have hmk:=hp.part (f:=zbb) (fun p=>by unfold zbb;split<;>omega) gs.length
 have hto:=hp.part (f:=fun _=>1) (fun p=>by omega) gs.length
 rw[xay]at hmk hto
 have hS:c.2.2.2.1=(c.2.2.2.1.toNat:Int):=by omega
 have e1:wsum (fun _=>1) gs=((sumN (gpOf c gs lots).k gs.length:Nat):Int):=by
  have:=zjo hp (fun _=>true) c lots gs.length (Nat.le_refl _)
  rw[xay]at this
  simpa using this
 have e2:wsum zbb gs=(((gpOf c gs lots).mkd:Nat):Int):=by
  have:=zjo hp (fun p=>decide (p≠ [])) c lots gs.length (Nat.le_refl _)
  rw[xay]at this
  have hf:(fun p:List Int=>if decide (p≠ [])=true then(1:Int)else 0)=zbb:=by
   funext p;unfold zbb;by_cases hp:p=[]<;>simp[hp]
  rw[hf]at this
  rw[this]
  congr 1
  unfold GP.mkd
  refine zam fun g hg=>?_
  by_cases hp:(gpOf c gs lots).p g=[]<;>simp[hp]
 obtain⟨S,hSS⟩:∃S,c.2.2.2.1.toNat=S:=⟨_,rfl⟩
 have hq:(gpOf c gs lots).q=(gpOf c gs lots).mkd/(S+1)+1:=by
  show(wsum zbb gs/(c.2.2.2.1+1)+1).toNat=_
  rw[e2,hS,hSS]
  rfl
 have hm5:(gpOf c gs lots).mkd≤100000:=by omega
 have hdiv:=xdl (gpOf c gs lots).mkd (S+1)
 have hq1:1≤(gpOf c gs lots).q∧(gpOf c gs lots).q≤100001:=by
  rw[hq]
  generalize(gpOf c gs lots).mkd/(S+1)=Q at hdiv ⊢
  omega
 refine⟨⟨n1,n7,by show 1≤c.2.2.2.1.toNat;omega,by show c.2.2.2.1.toNat≤5;omega,fun g hgl x hx=>?_,fun g hgl=>?_,?_,by show(wsum (fun _=>1) gs).toNat≤_;omega,hq1.1,hq1.2,?_,t1,t3,ll,fun x hx=>?_,hB.1⟩,by show gs.length≤_;omega,?_,?_,hp.d92 (by omega),?_⟩
 ·have:=(hp.ballots _ (zbi (l:=gs) (d:=([],0)) (i:=g) hgl)).1.2 x hx
  exact⟨x.toNat,by omega,by show x.toNat<c.2.1.length;omega⟩
 ·exact(hg _ (zbi (l:=gs) (d:=([],0)) (i:=g) hgl)).1
 ·show sumN (gpOf c gs lots).k gs.length=(wsum (fun _=>1) gs).toNat
  omega
 ·rw[hq]
  show _<_*(c.2.2.2.1.toNat+1)
  rw[hSS]
  exact quo_lt (by omega) (by omega)
 ·have:=hB.2 x hx
  exact⟨x.toNat,by omega,by show x.toNat<c.2.1.length;omega⟩
 ·exact hS
 ·rw[hp.d90 (by omega)]
  congr 1
  show _=((wsum (fun _=>1) gs).toNat:Int)
  omega
 ·rw[d91_eq hmk.1 hmk.2 s1 s5]
  congr 1
  show _=((wsum zbb gs/(c.2.2.2.1+1)+1).toNat:Int)
  have:0≤wsum zbb gs/(c.2.2.2.1+1):=Int.ediv_nonneg hmk.1 (by omega)
  omega
variable {P:GP} {s:GS}
theorem RsOK.next(hP:P.OK)(hI:GI P s){rs:List Rd}(hR:RsOK P s rs)(hl:rs.length+1≤7){s':GS}(hk:∀i,i<P.n→Bz eB (s'.keep i)){r:Rd}(hv:r.votes=(s.rd0 P).votes)(he:r.el.length≤7):RsOK P s' (rs++[r]):=by
 refine⟨fun x hx=>?_,by simp;omega,hk⟩
 rcases List.mem_append.1 hx with hx|hx
 ·exact hR.rnd x hx
 ·rw[xbm]at hx
  subst hx
  rw[hv]
  exact⟨votes_rnd hP hI,he⟩
theorem el_len(hP:P.OK):(selI (s.el1 P) P.n).length≤7:=by rw[zao];have:=zaw (s.el1 P) P.n;have:=hP.n7;omega
theorem fl_next{x y:Nat}(hx:x<P.n)(hy:(s.st1 P x=1∧y=2)∨(s.st1 P x=0∧y=3)){st:Nat→Nat}(hst:st=upd (s.st1 P) x y):s.e1 P+s.e2 P=cntN (fun i=>decide (st i=1)) P.n+cntN (fun i=>decide (st i=2)) P.n:=by
 subst hst
 unfold GS.e1 GS.e2 cntN
 rw[←zbr,←zbr]
 refine zam fun i hi=>?_
 by_cases h:i=x
 ·subst h
  rcases hy with⟨h1,rfl⟩|⟨h1,rfl⟩<;>simp[h1,zbw]
 ·simp[upd,h]
theorem trans_keep(hP:P.OK)(hI:GI P s)(hf:s.fin P=false)(hm:s.most P=true)(earlier:List (List Rat))(hk:∀i,i<P.n→Bz eB (s.keep i)):∀i,i<P.n→Bz eB ((s.trans P earlier).keep i):=by
 intro i hi
 obtain⟨x,x1,x2,x3⟩:=zfg hP hI hf earlier
 have hv:=zpw hP hI x2
 unfold GS.trans
 simp only[x1,Int.toNat_natCast]
 show Bz eB (upd s.keep x _ i)
 unfold upd
 split
 ·exact zjk (zio hP hI (by omega)) (zio hP hI hv) (by decide)
 ·exact hk i hi
theorem excl_keep(earlier:List (List Rat))(hk:∀i,i<P.n→Bz eB (s.keep i)):∀i,i<P.n→Bz eB ((s.excl P earlier).keep i):=by
 intro i hi
 unfold GS.excl
 show Bz eB (upd s.keep _ 0 i)
 unfold upd
 split
 ·exact bz_zero
 ·exact hk i hi
theorem grun_fin{k:Nat}{rs:List Rd}(hf:s.fin P=true):grun P (k+1) rs s=rs++[s.done P]:=by
 unfold grun gstep;rw[if_pos hf]
theorem grun_trans{k:Nat}{rs:List Rd}(hf:s.fin P=false)(hm:s.most P=true):grun P (k+1) rs s=grun P k (rs++[{s.rd0 P with ti:=s.tiedR P}]) (s.trans P (rs.map Rd.votes)):=by
 rw[grun];unfold gstep;rw[if_neg (by rw[hf];simp),if_pos hm]
theorem grun_excl{k:Nat}{rs:List Rd}(hf:s.fin P=false)(hm:s.most P=false):grun P (k+1) rs s=grun P k (rs++[{s.rd0 P with ti:=s.tiedR P,ex:=[s.pick P (rs.map Rd.votes)]}]) (s.excl P (rs.map Rd.votes)):=by
 rw[grun];unfold gstep;rw[if_neg (by rw[hf];simp),if_neg (by rw[hm];simp)]
structure Run(P:GP)(s:GS)(rs:List Rd):Prop where
 inv:GI P s
 ok:RsOK P s rs
 len:rs.length+s.meas P≤P.n
 run:grun P (P.n+1-rs.length) rs s=zgh P
 one:∀i,i<P.n→s.st i=0∨s.st i=1→s.keep i=1
theorem keep_one{x y:Nat}(hy:y=2∨y=3){k:Rat}{a b:Nat}(h:∀i,i<P.n→s.st i=0∨s.st i=1→s.keep i=1):∀i,i<P.n→(s.move P (upd (s.st1 P) x y) (upd s.keep x k) x a b).st i=0∨(s.move P (upd (s.st1 P) x y) (upd s.keep x k) x a b).st i=1→(s.move P (upd (s.st1 P) x y) (upd s.keep x k) x a b).keep i=1:=by
 intro i hi hs
 have hs':upd (s.st1 P) x y i=0∨upd (s.st1 P) x y i=1:=hs
 show upd s.keep x k i=1
 by_cases hix:i=x
 ·subst hix
  rw[zbw]at hs'
  omega
 ·rw[zee _ _ hix]at hs' ⊢
  refine h i hi ?_
  rcases zbx (P:=P) (s:=s) i with⟨h0,h1,h2,_⟩|⟨h0,h2⟩<;>omega
theorem Run.start(hP:P.OK):Run P g0 []:=⟨g0_inv hP,⟨fun r hr=>by simp at hr,by simp,fun i _=>by
 have:=zin (n:=1) (by decide)
 exact this⟩,by simp;exact meas_le _,rfl,fun i _ _=>rfl⟩
theorem Run.trans(hP:P.OK){rs:List Rd}(h:Run P s rs)(hf:s.fin P=false)(hm:s.most P=true):Run P (s.trans P (rs.map Rd.votes)) (rs++[{s.rd0 P with ti:=s.tiedR P}]):=by
 have hme:=zlc hP h.inv hf hm (rs.map Rd.votes)
 have hl:=h.len
 have hn:=hP.n7
 refine⟨trans_inv hP h.inv hf hm _,h.ok.next hP h.inv (by omega) (trans_keep hP h.inv hf hm _ h.ok.keep) rfl (el_len hP),by simp;omega,?_,keep_one (.inl rfl) h.one⟩
 have hr:=h.run
 rw[show P.n+1-rs.length=P.n-rs.length+1 by omega,grun_trans hf hm]at hr
 rw[←hr]
 congr 1
 simp
theorem Run.excl(hP:P.OK){rs:List Rd}(h:Run P s rs)(hf:s.fin P=false)(hm:s.most P=false):Run P (s.excl P (rs.map Rd.votes)) (rs++[{s.rd0 P with ti:=s.tiedR P,ex:=[s.pick P (rs.map Rd.votes)]}]):=by
 have hme:=zpe hP h.inv hf hm (rs.map Rd.votes)
 have hl:=h.len
 have hn:=hP.n7
 refine⟨excl_inv hP h.inv hf hm _,h.ok.next hP h.inv (by omega) (excl_keep _ h.ok.keep) rfl (el_len hP),by simp;omega,?_,keep_one (.inr rfl) h.one⟩
 have hr:=h.run
 rw[show P.n+1-rs.length=P.n-rs.length+1 by omega,grun_excl hf hm]at hr
 rw[←hr]
 congr 1
 simp
theorem Run.fin{rs:List Rd}(h:Run P s rs)(hf:s.fin P=true):rs++[s.done P]=zgh P:=by
 have hl:=h.len
 have hr:=h.run
 rw[show P.n+1-rs.length=P.n-rs.length+1 by omega,grun_fin hf]at hr
 exact hr
def trT(P:GP):Int×(Int×(Int×(Int×(List RD×List Int)))):=(3,(P.seats:Int),0,(P.n:Int),(zgh P).map rdT,(zgh P).flatMap Rd.el)
set_option maxHeartbeats 1000000 in
theorem d50_eq{c:CT}{gs:List Grp}{lots:List Int}(hg:GsOK gs)(hl:lots.length≤281474976710656):d50 c gs lots=some (if fitE 3 c gs lots=0 then(trT (gpOf c gs lots),0)else((0,0,0,0,[],[]),fitE 3 c gs lots)):=by
 unfold d50
 rw[d66_eq 3 c hg hl,Option.bind_some]
 by_cases hfit:¬fitE 3 c gs lots=0
 ·rw[if_neg hfit,decide_eq_false hfit];rfl
 have hfit:=xgi.1 hfit
 rw[if_pos hfit,decide_eq_true hfit,xam,xac]
 obtain⟨hP,hG,hs,h67,h52,h30⟩:=gpOf_ok hfit
 have hgs:(gpOf c gs lots).gs=gs:=rfl
 have hn:c.2.1.length=(gpOf c gs lots).n:=rfl
 have hlo:(gpOf c gs lots).lots=lots:=rfl
 have hti:c.2.2.2.2.2.2.1=(gpOf c gs lots).ties:=rfl
 have hGl:gs.length=(gpOf c gs lots).G:=rfl
 have hpar:∀i,parc (gpOf c gs lots) g0 i=((gs.getD i ([],0)).1,((gs.getD i ([],0)).2.toNat:Int),0,rr (frac 1 1)):=fun i=>rfl
 have hpos:∀i,i<gs.length→((gs.getD i ([],0)).2.toNat:Int)=(gs.getD i ([],0)).2:=fun i hi=>by
  obtain⟨_,_,_,_,_,_,_,_,_,_,_,_,hp,_,_⟩:=zii hfit
  have:=(hp.ballots _ (zbi (l:=gs) (d:=([],0)) (i:=i) hi)).2
  omega
 rw[h67,h52,Option.bind_some,Option.bind_some,h30,Option.bind_some]
 generalize hPP:gpOf c gs lots=P at *
 have hn7:=hP.n7
 have hz1:d93 1=some (rr 1):=zqy (n:=1) (by omega) (by omega)
 have hone:rr (frac 1 1)=rr (1:Rat):=by rw[zsn];rfl
 rw[hn]
 simp only[xaq,d0le,zbq (n:=P.n) (by omega),xad,cond_true,tn,hs]
 refine zac (fun i=>(gs,(0,0,0,0,[],[]),(c,lots,(P.tot:Int),(P.q:Int),[],List.replicate P.n 0,lst (fun _=>rr 1) i,0,[],3,(P.seats:Int),0,(P.n:Int),[],[]),(P.n:Int),(i:Int))) P.n rfl (fun i hi=>?_) (b:=(gs,(0,0,0,0,[],[]),(c,lots,(P.tot:Int),(P.q:Int),[],List.replicate P.n 0,lst (fun _=>rr 1) P.n,0,[],3,(P.seats:Int),0,(P.n:Int),[],[]))) ?_ ?_
 ·have hl:=zbn (l:=lst (fun _=>rr (1:Rat)) i) (d:=rr 1) (by rw[zaf];omega)
  simp only[dlt hi,cond_true,hz1,Option.bind_some,hl,zav (show i<9223372036854775807 by omega),←zet]
 ·simp only[nlt (Nat.le_refl P.n),xac]
 simp only
 refine zac (fun i=>((0,0,0,0,[],[]),(c,lots,(P.tot:Int),(P.q:Int),lst (parc P g0) i,List.replicate P.n 0,lst (fun _=>rr 1) P.n,0,[],3,(P.seats:Int),0,(P.n:Int),[],[]),gs,(gs.length:Int),(i:Int))) gs.length rfl (fun i hi=>?_) (b:=((0,0,0,0,[],[]),(c,lots,(P.tot:Int),(P.q:Int),lst (parc P g0) gs.length,List.replicate P.n 0,lst (fun _=>rr 1) P.n,0,[],3,(P.seats:Int),0,(P.n:Int),[],[]))) ?_ ?_
 ·have hl:=zbn (l:=lst (parc P g0) i) (d:=((gs.getD i ([],0)).1,(gs.getD i ([],0)).2,0,rr 1)) (by rw[zaf];omega)
  simp only[dlt hi,d0le,xad,cond_true,tn,hz1,Option.bind_some,hl,zav (show i<9223372036854775807 by omega),zet,hpar,hpos i hi,hone]
 ·simp only[nlt (Nat.le_refl gs.length),xac]
 simp only
 have hK0:(c,lots,(P.tot:Int),(P.q:Int),lst (parc P g0) gs.length,List.replicate P.n 0,lst (fun _=>rr 1) P.n,0,[],3,(P.seats:Int),0,(P.n:Int),[],[])=KTof P c g0 g0.st 0 []:=by
  unfold KTof
  rw[hlo,hGl,zol]
  rfl
 rw[hK0]
 refine zes (Q:=fun r=>r=some (trT P,0)) (fun(M:Nat) (st:(Int×(Int×(Int×(Int×(List RD×List Int)))))×KT)=>∃(s:GS) (rs:List Rd) (fl:Nat),st=((0,0,0,0,[],[]),KTof P c s s.st fl rs)∧Run P s rs∧fl=cntN (fun i=>decide (s.st i=1)) P.n+cntN (fun i=>decide (s.st i=2)) P.n∧M=s.meas P) (g0.meas P) ⟨g0,[],0,rfl,Run.start hP,?_,rfl⟩ ?_
 ·have e1:cntN (fun i=>decide (g0.st i=1)) P.n=0:=by unfold cntN;exact zcs _
  have e2:cntN (fun i=>decide (g0.st i=2)) P.n=0:=by unfold cntN;exact zcs _
  rw[e1,e2]
 ·rintro M st ⟨s,rs,fl,rfl,hR,hfl,rfl⟩
  rcases d94_eq hP hR.inv hG hR.ok hti hs hfl with⟨hf,st',fl',he⟩|⟨hf,hm,he⟩|⟨hf,hm,he⟩
  ·refine .inr ⟨((0,0,0,0,[],[]),KTof P c s st' fl' (rs++[s.done P])),by simp only[he,Option.bind_some,xac],?_⟩
   show some ((3,(P.seats:Int),0,(P.n:Int),(rs++[s.done P]).map rdT,(rs++[s.done P]).flatMap Rd.el),0)=some (trT P,0)
   rw[hR.fin hf];rfl
  ·have hme:=zlc hP hR.inv hf hm (rs.map Rd.votes)
   obtain⟨x,x1,x2,x3⟩:=zfg hP hR.inv hf (rs.map Rd.votes)
   rw[hm,if_pos rfl]at x3
   exact .inl ⟨_,(s.trans P (rs.map Rd.votes)).meas P,by simp only[he,Option.bind_some,cond_true],by omega,_,_,_,rfl,hR.trans hP hf hm,fl_next x2 (.inl ⟨x3,rfl⟩) (by unfold GS.trans;simp only[x1,Int.toNat_natCast];rfl),rfl⟩
  ·have hme:=zpe hP hR.inv hf hm (rs.map Rd.votes)
   obtain⟨x,x1,x2,x3⟩:=zfg hP hR.inv hf (rs.map Rd.votes)
   rw[hm]at x3
   have x3':s.st1 P x=0:=by simpa using x3
   exact .inl ⟨_,(s.excl P (rs.map Rd.votes)).meas P,by simp only[he,Option.bind_some,cond_true],by omega,_,_,_,rfl,hR.excl hP hf hm,fl_next x2 (.inr ⟨x3',rfl⟩) (by unfold GS.excl;simp only[x1,Int.toNat_natCast];rfl),rfl⟩
end Go.Proofs.YtamgmpngdmnadaaGreat
namespace Go.Proofs.YtamgmpngdmnadaaGreat
open Go Go.X
theorem d45_eq{n:Nat}(hn:n≤1000):∃l,d45 (n:Int)=some l∧l.length=n:=by
 unfold d45
 refine⟨lst (fun i=>[wu8 (w (97+(i:Int)))]) n,?_,zaf _ _⟩
 refine zac (fun i=>((n:Int),lst (fun i=>[wu8 (w (97+(i:Int)))]) i,(i:Int))) n rfl (fun i hi=>?_) ?_ rfl
 ·simp only[dlt hi,cond_true,zbn (l:=lst (fun i=>[wu8 (w (97+(i:Int)))]) i) (d:=[wu8 (w (97+(i:Int)))]) (by rw[zaf];omega),zav (show i<9223372036854775807 by omega),zet]
 ·simp only[nlt (Nat.le_refl n),xac]
structure ConOK(c:CT)(n:Nat)(m:Int):Prop where
 names:c.2.1.length=n
 method:c.2.2.1=m
 seats1:1≤c.2.2.2.1
 seats5:c.2.2.2.1≤5
 seat:m=1→c.2.2.2.1=1
 digits:m=2→1≤c.2.2.2.2.2.1∧c.2.2.2.2.2.1≤6
 nodigits:m≠2→c.2.2.2.2.2.1=0
 ties1:1≤c.2.2.2.2.2.2.1
 ties3:c.2.2.2.2.2.2.1≤3
theorem d17_eq{n:Nat}(hn:n≤1000){m seats digits ties:Int}(hm:WT (.int .i64) m)(hs:WT (.int .i64) seats)(hd:WT (.int .i64) digits)(ht:WT (.int .i64) ties):∃c:CT,d17 m (n:Int) seats digits ties=some c∧ConOK c n (1+m%3)∧c.2.2.2.1=(if 1+m%3=1 then 1 else 1+seats%5)∧c.2.2.2.2.2.2.1=1+ties%3:=by
 obtain⟨l,l1,l2⟩:=d45_eq (n:=n) hn
 unfold d17
 rw[l1,zjh hm (by omega) (by omega),zjh hs (by omega) (by omega),zjh ht (by omega) (by omega),zjh hd (by omega) (by omega)]
 simp only[Option.bind_some,zal]
 have w1:w (1+m%3)=1+m%3:=zbj (by omega) (by omega)
 have w2:w (1+seats%5)=1+seats%5:=zbj (by omega) (by omega)
 have w3:w (1+ties%3)=1+ties%3:=zbj (by omega) (by omega)
 have w4:w (1+digits%6)=1+digits%6:=zbj (by omega) (by omega)
 simp only[w1,w2,w3,w4]
 have hm3:1+m%3=1∨1+m%3=2∨1+m%3=3:=by omega
 rcases hm3 with h|h|h
 ·rw[h]
  exact⟨_,rfl,⟨l2,rfl,by show(1:Int)≤1;omega,by show(1:Int)≤5;omega,fun _=>rfl,fun h=>absurd h (by omega),fun _=>rfl,by show 1≤1+ties%3;omega,by show 1+ties%3≤3;omega⟩,rfl,rfl⟩
 ·rw[h]
  exact⟨_,rfl,⟨l2,rfl,by show 1≤1+seats%5;omega,by show 1+seats%5≤5;omega,fun h=>absurd h (by omega),fun _=>by show 1≤1+digits%6∧1+digits%6≤6;omega,fun h=>absurd rfl h,by show 1≤1+ties%3;omega,by show 1+ties%3≤3;omega⟩,rfl,rfl⟩
 ·rw[h]
  exact⟨_,rfl,⟨l2,rfl,by show 1≤1+seats%5;omega,by show 1+seats%5≤5;omega,fun h=>absurd h (by omega),fun h=>absurd h (by omega),fun _=>rfl,by show 1≤1+ties%3;omega,by show 1+ties%3≤3;omega⟩,rfl,rfl⟩
theorem d18_eq{n:Nat}(hn:n≤1000){code:Int}(hc:WT (.int .i64) code):∃l,d18 (n:Int) code=some l∧l.length=n∧isB (n:Int) l:=by
 have hwt:∀x:Int,WT (.int .i64) x→-9223372036854775808≤x∧x≤9223372036854775807:=fun x hx=>wt_int hx
 unfold d18
 refine zbv (Q:=fun r=>∃l,r=some l∧l.length=n∧isB (n:Int) l) (fun(i:Nat) (st:Int×Int×(List Int)×Int)=>∃(cd:Int) (out:List Int),st=((n:Int),cd,out,(i:Int))∧WT (.int .i64) cd∧out.length=i∧isB (i:Int) out) n ?_ ?_ ?_
 ·exact⟨code,[],rfl,hc,rfl,xih,fun x hx=>by simp at hx⟩
 ·rintro i st hi ⟨cd,out,rfl,hcd,hlen,hb⟩
  have hcb:=hwt cd hcd
  have b:=zez cd (n:=((i+1:Nat):Int)) (by omega)
  obtain⟨r,hr⟩:∃r:Nat,cd%((i+1:Nat):Int)=(r:Int):=⟨(cd%((i+1:Nat):Int)).toNat,by omega⟩
  have hri:r≤i:=by omega
  have c1:zck 0 (r:Int) out.length=true:=by
   unfold zck
   simp only[xaf,xag]
   omega
  have c2:zck (r:Int) (out.length:Int) out.length=true:=by
   unfold zck
   simp only[xaf,xag]
   omega
  have hq:-9223372036854775808≤Int.tdiv cd ((i+1:Nat):Int)∧Int.tdiv cd ((i+1:Nat):Int)≤9223372036854775807:=by
   have h1:=Int.natAbs_tdiv_le_natAbs cd ((i+1:Nat):Int)
   by_cases h0:cd=-9223372036854775808
   ·subst h0
    have h2:Int.tdiv (-9223372036854775808) ((i+1:Nat):Int)=-(Int.tdiv 9223372036854775808 ((i+1:Nat):Int)):=by rw[←Int.neg_tdiv]
    have h3:0≤Int.tdiv 9223372036854775808 ((i+1:Nat):Int):=Int.tdiv_nonneg (by omega) (by omega)
    omega
   ·omega
  have hne:decide (((i+1:Nat):Int)=0)=false:=decide_eq_false (by omega)
  have ht:(out.take r).length=r:=by rw[xao];omega
  have l1:decide ((([]:List Int).length:Int)+((out.take r).length:Int)≤LIM)=true:=zln (by rw[ht];simp;omega)
  have l2:=zbn (l:=out.take r) (d:=(i:Int)) (by omega)
  have l3:decide (((out.take r++[(i:Int)]).length:Int)+((out.drop r).length:Int)≤LIM)=true:=zln (by simp;omega)
  simp only[dlt hi,cond_true,zav (show i<9223372036854775807 by omega),zjh hcd (show(0:Int)<((i+1:Nat):Int) by omega) (by omega),hr,Option.bind_some,hne,xak,c1,c2,xfc,tn,xay,l1,l2,l3]
  refine⟨_,rfl,_,_,rfl,?_,by simp;omega,?_,fun x hx=>?_⟩
  ·rw[zbj hq.1 hq.2]
   exact zbj hq.1 hq.2
  ·have hp:(out.take r++[(i:Int)]++out.drop r).Perm ((i:Int)::out):=by
    have h1:(out.take r++[(i:Int)]++out.drop r).Perm ([(i:Int)]++out.take r++out.drop r):=xhx _ xgl
    have h2:[(i:Int)]++out.take r++out.drop r=(i:Int)::out:=by rw[xcj,xcx];rfl
    rwa[h2]at h1
   refine hp.nodup_iff.2 (xfj.2 ⟨fun hm=>?_,hb.1⟩)
   have:=hb.2 _ hm
   omega
  ·simp only[List.mem_append,xbm]at hx
   rcases hx with(hx|hx)|hx
   ·have:=hb.2 x (xbv hx);omega
   ·omega
   ·have:=hb.2 x (xfo hx);omega
 ·rintro st ⟨cd,out,rfl,hcd,hlen,hb⟩
  exact⟨out,by simp only[nlt (Nat.le_refl n),xac],out,rfl,hlen,hb⟩
theorem zoy{c:CT}{n:Nat}{m:Int}{gs:List Grp}{lots:List Int}{N:Int}(hc:ConOK c n m)(hm:1≤m)(hm3:m≤3)(h1:1≤n)(h7:n≤7)(hp:PileOK (n:Int) gs N)(hl:lots.length=n)(hb:isB (n:Int) lots):fitE m c gs lots=0:=by
 have hn:=hc.names
 have hpb:zse (n:Int) gs=true:=by
  unfold zse goodP
  rw[decide_eq_true hp.good,decide_eq_true (show 1≤(n:Int)∧(n:Int)≤7 by omega)];rfl
 have hqb:permB (n:Int) lots=true:=by
  unfold permB
  rw[decide_eq_true hb,decide_eq_true (by omega)];rfl
 have:=hc.seats1
 have:=hc.seats5
 have:=hc.ties1
 have:=hc.ties3
 unfold fitE
 rw[hn,hpb,hqb]
 simp only[decide_eq_false (show ¬m<1 by omega),decide_eq_false (show ¬3<m by omega),decide_eq_true hc.method,decide_eq_false (show ¬(n:Int)<1 by omega),decide_eq_false (show ¬7<(n:Int) by omega),decide_eq_false (show ¬c.2.2.2.1<1 by omega),decide_eq_false (show ¬5<c.2.2.2.1 by omega),decide_eq_false (show ¬c.2.2.2.2.2.2.1<1 by omega),decide_eq_false (show ¬3<c.2.2.2.2.2.2.1 by omega),xam,xbz,xbg,xac]
 have h1:(decide (m=1)&& !decide (c.2.2.2.1=1))=false:=by
  by_cases h:m=1
  ·rw[decide_eq_true (hc.seat h)];simp
  ·rw[decide_eq_false h];rfl
 have h2:(bif decide (m=2)then decide (1≤c.2.2.2.2.2.1)&&decide (c.2.2.2.2.2.1≤6)else decide (c.2.2.2.2.2.1=0))=true:=by
  by_cases h:m=2
  ·rw[decide_eq_true h,cond_true,decide_eq_true (hc.digits h).1,decide_eq_true (hc.digits h).2];rfl
  ·rw[decide_eq_false h,xac,decide_eq_true (hc.nodigits h)]
 rw[h1,h2]
 rfl
theorem gs_of{n:Nat}(h7:n≤7){gs:List Grp}{N:Int}(hp:PileOK (n:Int) gs N):GsOK gs:=hp.gs (by omega)
end Go.Proofs.YtamgmpngdmnadaaGreat
namespace Go.Proofs.YtamgmpngdmnadaaGreat
open Go Go.X
inductive Tr(P:GP):GS→List Rd→List Rd→Prop
 |fin {s:GS} {rs:List Rd}:Run P s rs→s.fin P=true→Tr P s rs [s.done P]
 |trans {s:GS} {rs rest:List Rd}:Run P s rs→s.fin P=false→s.most P=true→Tr P (s.trans P (rs.map Rd.votes)) (rs++[{s.rd0 P with ti:=s.tiedR P}]) rest→Tr P s rs ({s.rd0 P with ti:=s.tiedR P}::rest)
 |excl {s:GS} {rs rest:List Rd}:Run P s rs→s.fin P=false→s.most P=false→Tr P (s.excl P (rs.map Rd.votes)) (rs++[{s.rd0 P with ti:=s.tiedR P,ex:=[s.pick P (rs.map Rd.votes)]}]) rest→Tr P s rs ({s.rd0 P with ti:=s.tiedR P,ex:=[s.pick P (rs.map Rd.votes)]}::rest)
theorem tr_ex{P:GP}(hP:P.OK):∀(m:Nat) {s:GS} {rs:List Rd},s.meas P<m→Run P s rs→∃rest,Tr P s rs rest∧rs++rest=zgh P
 | 0,_,_,h,_=>by omega
 |m+1,s,rs,h,hR=>by
  cases hf:s.fin P with
  |true=>exact⟨_,.fin hR hf,hR.fin hf⟩
  |false=>
   cases hm:s.most P with
   |true=>
    have hme:=zlc hP hR.inv hf hm (rs.map Rd.votes)
    obtain⟨rest,h1,h2⟩:=tr_ex hP m (by omega) (hR.trans hP hf hm)
    exact⟨_,.trans hR hf hm h1,by rw[←h2,xcj];rfl⟩
   |false=>
    have hme:=zpe hP hR.inv hf hm (rs.map Rd.votes)
    obtain⟨rest,h1,h2⟩:=tr_ex hP m (by omega) (hR.excl hP hf hm)
    exact⟨_,.excl hR hf hm h1,by rw[←h2,xcj];rfl⟩
theorem zov{P:GP}(hP:P.OK):Tr P g0 [] (zgh P):=by
 obtain⟨rest,h1,h2⟩:=tr_ex hP (g0.meas P+1) (by omega) (Run.start hP)
 rw[xby]at h2
 rwa[h2]at h1
variable {P:GP} {s:GS}
theorem Tr.ne{rs rest:List Rd}(h:Tr P s rs rest):rest≠ []:=by
 cases h<;>simp
def GS.act(P:GP)(s:GS):Nat:=cntN (fun i=>decide (s.st i≠3)) P.n
theorem act_split(hI:GI P s):s.e1 P+s.e2 P+s.e0 P=s.act P:=by
 unfold GS.e1 GS.e2 GS.e0 GS.act cntN
 rw[←zbr,←zbr]
 refine zam fun i hi=>?_
 have h3:=hI.st3 i
 rcases zbx (P:=P) (s:=s) i with⟨h0,h1,h2,_⟩|⟨h0,h2⟩
 ·simp[h1,h2]
 ·have:s.st i=0∨s.st i=1∨s.st i=2∨s.st i=3:=by omega
  rcases this with h|h|h|h<;>simp[h,h2]
theorem el1_hop{i:Nat}(h:s.el1 P i=true):s.st i=0:=by
 unfold GS.el1 at h
 rw[xaf,xag]at h
 exact h.1
theorem trans_st(hP:P.OK)(hI:GI P s)(hf:s.fin P=false)(hm:s.most P=true)(E:List (List Rat)):∃x,x<P.n∧s.st1 P x=1∧s.pick P E=(x:Int)∧s.trans P E=s.move P (upd (s.st1 P) x 2) (upd s.keep x (frac (s.vt P x-s.bar P) (s.vt P x))) x (s.vt P x-s.bar P) (s.vt P x):=by
 obtain⟨x,x1,x2,x3⟩:=zfg hP hI hf E
 rw[hm,if_pos rfl]at x3
 exact⟨x,x2,x3,x1,by unfold GS.trans;simp only[x1,Int.toNat_natCast]⟩
theorem excl_st(hP:P.OK)(hI:GI P s)(hf:s.fin P=false)(hm:s.most P=false)(E:List (List Rat)):∃x,x<P.n∧s.st1 P x=0∧s.pick P E=(x:Int)∧s.excl P E=s.move P (upd (s.st1 P) x 3) (upd s.keep x 0) x 1 1:=by
 obtain⟨x,x1,x2,x3⟩:=zfg hP hI hf E
 rw[hm]at x3
 exact⟨x,x2,by simpa using x3,x1,by unfold GS.excl;simp only[x1,Int.toNat_natCast]⟩
theorem next_hop{x y:Nat}(hy:y≠0){keep:Nat→Rat}{a b i:Nat}(h:(s.move P (upd (s.st1 P) x y) keep x a b).st i=0):s.st i=0∧s.el1 P i=false:=by
 have h':upd (s.st1 P) x y i=0:=h
 unfold upd at h'
 split at h'
 ·omega
 ·rcases zbx (P:=P) (s:=s) i with⟨h0,h1,h2,_⟩|⟨h0,h2⟩
  ·omega
  ·exact⟨by omega,h0⟩
structure WinOK(P:GP)(s:GS)(l:List Int):Prop where
 nodup:l.Nodup
 within:∀c∈l,∃i:Nat,c=(i:Int)∧i<P.n∧s.st i=0
 num:l.length+cntN (fun i=>decide (s.st i=1)) P.n+cntN (fun i=>decide (s.st i=2)) P.n=min P.seats P.n
theorem zcw(p:Nat→Bool)(n:Nat):(selI p n).Nodup:=(zco p n).imp fun h=>by omega
theorem WinOK.cons(hI:GI P s){x y:Nat}(hx:x<P.n)(hy:(s.st1 P x=1∧y=2)∨(s.st1 P x=0∧y=3)){keep:Nat→Rat}{a b:Nat}{l:List Int}(h:WinOK P (s.move P (upd (s.st1 P) x y) keep x a b) l):WinOK P s (selI (s.el1 P) P.n++l):=by
 refine⟨xew.2 ⟨zcw _ _,h.nodup,fun c hc d hd hcd=>?_⟩,fun c hc=>?_,?_⟩
 ·subst hcd
  obtain⟨i,rfl,h1,h2⟩:=zap.1 hc
  obtain⟨j,h3,h4,h5⟩:=h.within _ hd
  have:=(next_hop (by omega) h5).2
  rw[←xec.1 h3,h2]at this
  cases this
 ·rcases List.mem_append.1 hc with hc|hc
  ·obtain⟨i,rfl,h1,h2⟩:=zap.1 hc
   exact⟨i,rfl,h1,el1_hop h2⟩
  ·obtain⟨j,h3,h4,h5⟩:=h.within _ hc
   exact⟨j,h3,h4,(next_hop (by omega) h5).1⟩
 ·have h1:=h.num
  have h2:=fl_next (P:=P) (s:=s) hx hy (st:=(s.move P (upd (s.st1 P) x y) keep x a b).st) rfl
  have h3:=zpn hI
  rw[List.length_append,zao]
  omega
theorem act_move{x y:Nat}(hx:x<P.n)(hy:(s.st1 P x=1∧y=2)∨(s.st1 P x=0∧y=3)){keep:Nat→Rat}{a b:Nat}:(s.move P (upd (s.st1 P) x y) keep x a b).act P+(if y=3 then 1 else 0)=s.act P:=by
 unfold GS.act
 show cntN (fun i=>decide (upd (s.st1 P) x y i≠3)) P.n+_=_
 have e:∀i,decide (s.st1 P i≠3)=decide (s.st i≠3):=fun i=>by
  refine xca.2 ?_
  rcases zbx (P:=P) (s:=s) i with⟨h0,h1,h2,_⟩|⟨h0,h2⟩<;>omega
 rcases hy with⟨h1,rfl⟩|⟨h1,rfl⟩
 ·rw[if_neg (by omega),xco]
  refine zgm fun i hi=>?_
  by_cases h:i=x
  ·subst h
   rw[zbw,←e,h1];rfl
  ·rw[zee _ _ h,e]
 ·rw[if_pos rfl]
  refine(zlz (p:=fun i=>decide (s.st i≠3)) hx (fun i hi hne=>?_) ?_ ?_).symm
  ·rw[zee _ _ hne,e]
  ·rw[zbw];rfl
  ·rw[←e,h1];rfl
theorem fin_win(hP:P.OK)(hI:GI P s)(hf:s.fin P=true)(hact:min P.seats P.n≤s.act P):WinOK P s (s.done P).el:=by
 have hs:=act_split hI
 have hc:=zpn hI
 have helec:=zlv hP hI
 have hactn:s.act P≤P.n:=zaw _ _
 unfold GS.done
 show WinOK P s (if s.e1 P+s.e2 P<P.seats then selI (fun i=>s.el1 P i||decide (s.st1 P i=0)) P.n else selI (s.el1 P) P.n)
 by_cases h:s.e1 P+s.e2 P<P.seats
 ·rw[if_pos h]
  have hq:s.e1 P+s.e2 P+s.e0 P≤P.seats:=by
   unfold GS.fin at hf
   rw[xcy,xag,xag]at hf
   rcases hf with h1|h1
   ·have:s.e1 P+s.e2 P=P.seats:=h1
    omega
   ·exact h1
  refine⟨zcw _ _,fun c hc=>?_,?_⟩
  ·obtain⟨i,rfl,h1,h2⟩:=zap.1 hc
   refine⟨i,rfl,h1,?_⟩
   rcases zbx (P:=P) (s:=s) i with⟨h0,k1,k2,_⟩|⟨h0,k2⟩
   ·exact k1
   ·rw[h0,xbg,xag]at h2
    omega
  ·rw[zao]
   have e:cntN (fun i=>s.el1 P i||decide (s.st1 P i=0)) P.n=cntN (s.el1 P) P.n+s.e0 P:=by
    unfold GS.e0 cntN
    rw[←zbr]
    refine zam fun i hi=>?_
    rcases zbx (P:=P) (s:=s) i with⟨h0,k1,k2,_⟩|⟨h0,k2⟩
    ·simp[h0,k2]
    ·simp[h0]
   rw[e]
   omega
 ·rw[if_neg h]
  refine⟨zcw _ _,fun c hc=>?_,?_⟩
  ·obtain⟨i,rfl,h1,h2⟩:=zap.1 hc
   exact⟨i,rfl,h1,el1_hop h2⟩
  ·rw[zao]
   have:s.e1 P+s.e2 P≤P.n:=by omega
   omega
theorem win_tr(hP:P.OK){rs rest:List Rd}(h:Tr P s rs rest):min P.seats P.n≤s.act P→WinOK P s (rest.flatMap Rd.el):=by
 induction h with
 |fin hR hf=>
  intro hact
  rw[xdj,xft,xbq]
  exact fin_win hP hR.inv hf hact
 | @trans s rs rest hR hf hm h ih=>
  intro hact
  obtain⟨x,x1,x2,x3,x4⟩:=trans_st hP hR.inv hf hm (rs.map Rd.votes)
  rw[x4]at ih
  have ha:=act_move (P:=P) (s:=s) (y:=2) x1 (.inl ⟨x2,rfl⟩) (keep:=upd s.keep x (frac (s.vt P x-s.bar P) (s.vt P x))) (a:=s.vt P x-s.bar P) (b:=s.vt P x)
  rw[if_neg (by omega),xco]at ha
  rw[xdj]
  exact WinOK.cons hR.inv x1 (.inl ⟨x2,rfl⟩) (ih (by rw[ha];exact hact))
 | @excl s rs rest hR hf hm h ih=>
  intro hact
  obtain⟨x,x1,x2,x3,x4⟩:=excl_st hP hR.inv hf hm (rs.map Rd.votes)
  rw[x4]at ih
  have ha:=act_move (P:=P) (s:=s) (y:=3) x1 (.inr ⟨x2,rfl⟩) (keep:=upd s.keep x 0) (a:=1) (b:=1)
  rw[if_pos rfl]at ha
  have hs:=act_split hR.inv
  have hff:=fin_false hP hR.inv hf
  rw[xdj]
  exact WinOK.cons hR.inv x1 (.inr ⟨x2,rfl⟩) (ih (by omega))
theorem win_ok(hP:P.OK):WinOK P g0 ((zgh P).flatMap Rd.el):=by
 refine win_tr hP (zov hP) ?_
 have:g0.act P=P.n:=by
  unfold GS.act cntN
  have key:∀n,sumN (fun _=>1) n=n:=fun n=>by
   induction n with
   |zero=>rfl
   |succ n ih=>rw[sumN,ih]
  exact(zam (g:=fun _=>1) fun i _=>rfl).trans (key _)
 rw[this]
 exact xht _ _
theorem win_len(hP:P.OK):((zgh P).flatMap Rd.el).length=min P.seats P.n:=by
 have h:=(win_ok hP).num
 have e1:cntN (fun i=>decide (g0.st i=1)) P.n=0:=by unfold cntN;exact zcs _
 have e2:cntN (fun i=>decide (g0.st i=2)) P.n=0:=by unfold cntN;exact zcs _
 rw[e1,e2]at h
 exact h
theorem gcount_ne(hP:P.OK):zgh P≠ []:=(zov hP).ne
end Go.Proofs.YtamgmpngdmnadaaGreat
namespace Go.Proofs.YtamgmpngdmnadaaGreat
open Go Go.X
def mup(a b:Nat):Nat:=(a+b-1)/b
structure MP where
 P:GP
 one:Nat
 om:Nat
def mw(one:Nat)(kp:Nat→Nat)(p:List Int):Nat→Nat
 | 0=>one
 |j+1=>mw one kp p j-mup (mw one kp p j*kp (p.getD j 0).toNat) one
def zha(one:Nat)(kp:Nat→Nat)(p:List Int)(j:Nat):Nat:=mup (mw one kp p j*kp (p.getD j 0).toNat) one
def mgive(one:Nat)(kp:Nat→Nat)(p:List Int)(c:Nat):Nat:=sumN (fun j=>if p.getD j 0=(c:Int)then zha one kp p j else 0) p.length
def mvo(P:GP)(one:Nat)(kp:Nat→Nat)(c:Nat):Nat:=sumN (fun g=>P.k g*mgive one kp (P.p g) c) P.G
def mro(P:GP)(one:Nat)(kp:Nat→Nat):Nat:=sumN (fun g=>P.k g*mw one kp (P.p g) (P.p g).length) P.G
structure MS where
 st:Nat→Nat
 kp:Nat→Nat
 since:Nat
 bef:Option Nat
def MS.v(Q:MP)(s:MS)(c:Nat):Nat:=mvo Q.P Q.one s.kp c
def MS.rest(Q:MP)(s:MS):Nat:=mro Q.P Q.one s.kp
def MS.quo(Q:MP)(s:MS):Nat:=sumN (s.v Q) Q.P.n/(Q.P.seats+1)+1
def MS.reach(Q:MP)(s:MS)(i:Nat):Bool:=decide (s.st i=0)&&decide (s.quo Q≤s.v Q i)
def zem(v:Nat→Nat)(lots:List Int)(d i:Nat):Bool:=decide (v i<v d)||(decide (v d=v i)&&decide (zct lots (d:Int)<zct lots (i:Int)))
def MS.fl(Q:MP)(s:MS):Nat:=cntN (fun i=>decide (s.st i=1)) Q.P.n
def MS.rank(Q:MP)(s:MS)(i:Nat):Nat:=cntN (fun d=>s.reach Q d&&zem (s.v Q) Q.P.lots d i) Q.P.n
def MS.el(Q:MP)(s:MS)(i:Nat):Bool:=s.reach Q i&&decide (s.rank Q i<Q.P.seats-s.fl Q)
def MS.st1(Q:MP)(s:MS)(i:Nat):Nat:=if s.el Q i then 1 else s.st i
def MS.sur(Q:MP)(s:MS):Nat:=sumN (fun i=>if s.st1 Q i=1 then s.v Q i-s.quo Q else 0) Q.P.n
def MS.f1(Q:MP)(s:MS):Nat:=cntN (fun i=>decide (s.st1 Q i=1)) Q.P.n
def MS.h1(Q:MP)(s:MS):Nat:=cntN (fun i=>decide (s.st1 Q i=0)) Q.P.n
def MS.some1(Q:MP)(s:MS):Bool:=decide (0<cntN (s.el Q) Q.P.n)
def MS.stall(Q:MP)(s:MS):Bool:=decide (s.sur Q<Q.om)||decide (60≤s.since+1)||(match s.bef with | some b=>decide (b≤s.sur Q) | none=>false)
def MS.near(Q:MP)(s:MS)(i:Nat):Bool:=decide (s.st i=0)&&(List.range Q.P.n).all fun k=>!decide (s.st k=0)||decide (s.v Q i≤s.v Q k+s.sur Q)
def MS.tied(Q:MP)(s:MS):List Int:=selI (s.near Q) Q.P.n
def MS.pick(Q:MP)(E:List (List Rat))(s:MS):Int:=if(s.tied Q).length=1 then(s.tied Q).headD 0 else tieB Q.P.ties E (s.tied Q) Q.P.lots true
def MS.rd0(Q:MP)(s:MS):Rd:=
 {votes:=lst (fun i=>frac (s.v Q i) Q.one) Q.P.n
  keep:=lst (fun i=>frac (s.kp i) Q.one) Q.P.n
  quota:=frac (s.quo Q) Q.one
  exh:=frac (s.rest Q) Q.one
  sur:=frac (s.sur Q) Q.one
  el:=selI (s.el Q) Q.P.n
  ex:=[]
  ti:=[]}
def MS.fin(Q:MP)(s:MS):Bool:=decide (s.f1 Q=Q.P.seats)||decide (s.f1 Q+s.h1 Q≤Q.P.seats)
def MS.done(Q:MP)(s:MS):Rd:={s.rd0 Q with el:=if s.f1 Q=Q.P.seats then selI (s.el Q) Q.P.n else selI (fun i=>s.el Q i||decide (s.st1 Q i=0)) Q.P.n}
def MS.excl(Q:MP)(E:List (List Rat))(s:MS):MS:={st:=upd s.st (s.pick Q E).toNat 2,kp:=upd s.kp (s.pick Q E).toNat 0,since:=0,bef:=none}
def MS.kp1(Q:MP)(s:MS)(i:Nat):Nat:=if s.st1 Q i=1∧0<s.v Q i then min Q.one (mup (mup (s.kp i*s.quo Q) Q.one*Q.one) (s.v Q i))else s.kp i
def MS.redu(Q:MP)(s:MS):MS:={st:=s.st1 Q,kp:=s.kp1 Q,since:=if s.some1 Q then 0 else s.since+1,bef:=some (s.sur Q)}
def MS.exR(Q:MP)(E:List (List Rat))(s:MS):Rd:={s.rd0 Q with ex:=[s.pick Q E],ti:=if(s.tied Q).length=1 then []else s.tied Q}
def MS.cut(Q:MP)(s:MS):Bool:=!s.some1 Q&&s.stall Q
def mstep(Q:MP)(E:List (List Rat))(s:MS):Rd×Option MS:=
 if s.fin Q then(s.done Q,none)
 else if s.cut Q then(s.exR Q E,some (s.excl Q E))
 else(s.rd0 Q,some (s.redu Q))
def mrun(Q:MP):Nat→List Rd→MS→List Rd
 | 0,rs,_=>rs
 |k+1,rs,s=>match mstep Q (rs.map Rd.votes) s with
  |(r,none)=>rs++[r]
  |(r,some s')=>mrun Q k (rs++[r]) s'
def MP.s0(Q:MP):MS:={st:=fun _=>0,kp:=fun _=>Q.one,since:=0,bef:=none}
def zhs(Q:MP):List Rd:=mrun Q 500 [] Q.s0
theorem mup_le{a b c:Nat}(hb:0<b)(h:a≤c*b):mup a b≤c:=by
 unfold mup
 have:(a+b-1)/b<c+1:=by
  rw[xdq hb,xbp]
  omega
 omega
theorem mup_pos{a b:Nat}(hb:0<b)(ha:0<a):0<mup a b:=by
 unfold mup
 exact Nat.div_pos (by omega) hb
section
variable {one:Nat} {kp:Nat→Nat} (h1:0<one) (hk:∀c,kp c≤one)
include h1 hk
theorem znb(p:List Int)(j:Nat):zha one kp p j≤mw one kp p j:=mup_le h1 (xcp _ (hk _))
theorem mw_step(p:List Int)(j:Nat):mw one kp p (j+1)+zha one kp p j=mw one kp p j:=by
 have:=znb h1 hk p j
 show mw one kp p j-zha one kp p j+_=_
 omega
theorem mw_sum(p:List Int):∀j,sumN (zha one kp p) j+mw one kp p j=one
 | 0=>by show 0+one=one;omega
 |j+1=>by
  have h2:=mw_sum p j
  have h3:=mw_step h1 hk p j
  rw[sumN]
  omega
theorem mw_le(p:List Int)(j:Nat):mw one kp p j≤one:=by have:=mw_sum h1 hk p j;omega
theorem mgive_sum{n:Nat}{p:List Int}(hp:∀c∈p,∃i:Nat,c=(i:Int)∧i<n):sumN (mgive one kp p) n+mw one kp p p.length=one:=by
 have hm:=mw_sum h1 hk p p.length
 refine Eq.trans ?_ hm
 congr 1
 unfold mgive
 rw[zjt (fun c j=>if p.getD j 0=(c:Int)then zha one kp p j else 0)]
 refine zam fun j hj=>?_
 obtain⟨i,e,hi⟩:=hp _ (zca hj)
 rw[e]
 have:sumN (fun c:Nat=>if(i:Int)=(c:Int)then zha one kp p j else 0) n=sumN (fun c=>if c=i then zha one kp p j else 0) n:=zam fun c _=>by
  by_cases h:c=i
  ·subst h;rw[if_pos rfl,if_pos rfl]
  ·rw[if_neg h,if_neg (by omega)]
 rw[this,zrq,if_pos hi]
theorem mv_sum{P:GP}(hP:P.OK):sumN (mvo P one kp) P.n+mro P one kp=P.tot*one:=by
 unfold mvo mro
 rw[zjt (fun c g=>P.k g*mgive one kp (P.p g) c),←zbr,←hP.total,←zfs]
 refine zam fun g hg=>?_
 have h2:=mgive_sum h1 hk (n:=P.n) (hP.prefs g hg)
 have h3:sumN (fun c=>P.k g*mgive one kp (P.p g) c) P.n=P.k g*sumN (mgive one kp (P.p g)) P.n:=by
  rw[xbk,←zfs]
  exact zam fun c _=>xbk _ _
 rw[h3,←xcb,h2]
theorem mv_le{P:GP}(hP:P.OK){c:Nat}(hc:c<P.n):mvo P one kp c≤P.tot*one:=by
 have h2:=mv_sum h1 hk hP
 have h3:=zfe (f:=mvo P one kp) hc
 omega
end
structure MP.OK(Q:MP):Prop where
 P:Q.P.OK
 one1:0<Q.one
 one6:Q.one≤1000000
 om:0<Q.om
structure MI(Q:MP)(s:MS):Prop where
 st2:∀c,s.st c≤2
 kp1:∀c,s.kp c≤Q.one
 hop:∀c,s.st c=0→s.kp c=Q.one
 elc:∀c,s.st c=1→0<s.kp c
 exc:∀c,s.st c=2→s.kp c=0
 since:s.since≤59
 fill:s.fl Q<Q.P.seats
 left:0<cntN (fun i=>decide (s.st i=0)) Q.P.n
variable {Q:MP} {s:MS}
theorem MS.v_le(hQ:Q.OK)(hI:MI Q s){c:Nat}(hc:c<Q.P.n):s.v Q c≤Q.P.tot*Q.one:=mv_le hQ.one1 hI.kp1 hQ.P hc
theorem MS.sum_le(hQ:Q.OK)(hI:MI Q s):sumN (s.v Q) Q.P.n+s.rest Q=Q.P.tot*Q.one:=mv_sum hQ.one1 hI.kp1 hQ.P
theorem MS.tot_le(hQ:Q.OK):Q.P.tot*Q.one≤100000000000:=Nat.le_trans (Nat.mul_le_mul hQ.P.tot5 hQ.one6) (by decide)
theorem MS.quo_le(hQ:Q.OK)(hI:MI Q s):s.quo Q≤Q.P.tot*Q.one+1:=by
 have h1:=MS.sum_le hQ hI
 have h2:=xdl (sumN (s.v Q) Q.P.n) (Q.P.seats+1)
 unfold MS.quo
 omega
theorem zbt(c:Nat):(s.el Q c=true∧s.st c=0∧s.st1 Q c=1∧s.quo Q≤s.v Q c)∨(s.el Q c=false∧s.st1 Q c=s.st c):=by
 unfold MS.st1
 cases h:s.el Q c
 ·exact .inr ⟨rfl,rfl⟩
 ·unfold MS.el MS.reach at h
  rw[xaf,xaf,xag,xag]at h
  exact .inl ⟨rfl,h.1.1,rfl,h.1.2⟩
theorem f1_eq:s.f1 Q=s.fl Q+cntN (s.el Q) Q.P.n:=by
 unfold MS.f1 MS.fl cntN
 rw[←zbr]
 refine zam fun i hi=>?_
 rcases zbt (Q:=Q) (s:=s) i with⟨h0,h1,h2,_⟩|⟨h0,h2⟩
 ·simp[h0,h1,h2]
 ·simp[h0,h2]
theorem h1_eq:s.h1 Q+cntN (s.el Q) Q.P.n=cntN (fun i=>decide (s.st i=0)) Q.P.n:=by
 unfold MS.h1 cntN
 rw[←zbr]
 refine zam fun i hi=>?_
 rcases zbt (Q:=Q) (s:=s) i with⟨h0,h1,h2,_⟩|⟨h0,h2⟩
 ·simp[h0,h1,h2]
 ·simp[h0,h2]
def MS.meas(Q:MP)(s:MS):Nat:=cntN (fun i=>decide (s.st i=0)) Q.P.n*61+(60-s.since)
end Go.Proofs.YtamgmpngdmnadaaGreat
namespace Go.Proofs.YtamgmpngdmnadaaGreat
open Go Go.X
theorem countP_at{α:Type}{R:α→α→Bool}:∀{L:List α},L.Pairwise (fun a b=>R a b=true)→(∀a∈L,R a a=false)→(∀a∈L,∀b∈L,R a b=true→R b a=false)→∀{j:Nat} (hj:j<L.length),L.countP (fun d=>R d L[j])=j
 | [],_,_,_,j,hj=>by simp at hj
 |x::L,hp,hi,ha,0,_=>by
  rw[List.countP_eq_zero]
  intro d hd
  rw[List.getElem_cons_zero]
  rcases xan.1 hd with rfl|hd
  ·rw[hi d (by simp)];simp
  ·rw[ha x (by simp) d (xah _ hd) ((xcc.1 hp).1 d hd)];simp
 |x::L,hp,hi,ha,j+1,hj=>by
  obtain⟨h1,h2⟩:=xcc.1 hp
  have hj':j<L.length:=by simpa using hj
  have ih:=countP_at h2 (fun a h=>hi a (xah _ h)) (fun a h b h'=>ha a (xah _ h) b (xah _ h')) hj'
  rw[List.getElem_cons_succ,List.countP_cons,ih,if_pos (h1 _ (xbe hj'))]
theorem ins_ex{α:Type}{R:α→α→Bool}(x:α):∀{L:List α},L.Pairwise (fun a b=>R a b=true)→(∀a∈L,R x a=true∨R a x=true)→(∀a∈L,∀b∈L,R x a=true→R a b=true→R x b=true)→∃A B,L=A++B∧(A++x::B).Pairwise fun a b=>R a b=true
 | [],_,_,_=>⟨[],[],rfl,by simp⟩
 |y::L,hp,ht,hr=>by
  obtain⟨h1,h2⟩:=xcc.1 hp
  cases hxy:R x y with
  |true=>
   refine⟨[],y::L,rfl,?_⟩
   rw[xby]
   refine xcc.2 ⟨fun b hb=>?_,hp⟩
   rcases xan.1 hb with rfl|hb
   ·exact hxy
   ·exact hr y (by simp) b (xah _ hb) hxy (h1 b hb)
  |false=>
   have hyx:R y x=true:=(ht y (by simp)).resolve_left (by rw[hxy];simp)
   obtain⟨A,B,e,hs⟩:=ins_ex x h2 (fun a ha=>ht a (xah _ ha)) (fun a ha b hb=>hr a (xah _ ha) b (xah _ hb))
   refine⟨y::A,B,by rw[e];rfl,?_⟩
   rw[xbn]
   refine xcc.2 ⟨fun b hb=>?_,hs⟩
   rcases List.mem_append.1 hb with hb|hb
   ·exact h1 b (by rw[e];exact xcr _ hb)
   ·rcases xan.1 hb with rfl|hb
    ·exact hyx
    ·exact h1 b (by rw[e];exact xgm _ hb)
theorem zko{α:Type}{R:α→α→Bool}:∀{l:List α},l.Nodup→(∀a∈l,∀b∈l,a≠b→R a b=true∨R b a=true)→(∀a∈l,∀b∈l,∀c∈l,R a b=true→R b c=true→R a c=true)→∃L:List α,L.Perm l∧L.Pairwise fun a b=>R a b=true
 | [],_,_,_=>⟨[],xfr _,by simp⟩
 |x::l,hn,ht,hr=>by
  obtain⟨h1,h2⟩:=xfj.1 hn
  obtain⟨L,hL,hs⟩:=zko h2 (fun a ha b hb=>ht a (xah _ ha) b (xah _ hb)) (fun a ha b hb c hc=>hr a (xah _ ha) b (xah _ hb) c (xah _ hc))
  have hm:∀a∈L,a∈l:=fun a ha=>hL.mem_iff.1 ha
  obtain⟨A,B,e,hs'⟩:=ins_ex x hs (fun a ha=>ht x (by simp) a (xah _ (hm a ha)) fun e=>h1 (by rw[e];exact hm a ha)) (fun a ha b hb=>hr x (by simp) a (xah _ (hm a ha)) b (xah _ (hm b hb)))
  refine⟨A++x::B,?_,hs'⟩
  refine List.perm_middle.trans (List.Perm.cons x ?_)
  rw[←e]
  exact hL
section
variable {v:Nat→Nat} {lots:List Int}
theorem better_irr(a:Nat):zem v lots a a=false:=by
 unfold zem
 simp
theorem better_asym{a b:Nat}(h:zem v lots a b=true):zem v lots b a=false:=by
 unfold zem at h ⊢
 simp only[xcy,xaf,xag,xbw,Bool.and_eq_false_iff,xaw]at h ⊢
 omega
theorem zms{a b c:Nat}(h:zem v lots a b=true)(h':zem v lots b c=true):zem v lots a c=true:=by
 unfold zem at h h' ⊢
 simp only[xcy,xaf,xag]at h h' ⊢
 omega
theorem zmt{a b:Nat}(ha:(a:Int)∈lots)(hne:a≠b):zem v lots a b=true∨zem v lots b a=true:=by
 have hp:zct lots (a:Int)≠zct lots (b:Int):=fun e=>by
  unfold zct at e
  have h1:lots.idxOf (a:Int)<lots.length:=xgv ha
  have e1:=List.getElem_idxOf h1
  have h2:lots.idxOf (b:Int)<lots.length:=by rw[←e];exact h1
  have e2:=List.getElem_idxOf h2
  have:(a:Int)=(b:Int):=by
   rw[←e1,←e2]
   congr 1
  omega
 unfold zem
 simp only[xcy,xaf,xag]
 omega
end
def zpr(v:Nat→Nat)(lots:List Int)(a b:Int):Bool:=zem v lots a.toNat b.toNat
variable {Q:MP} {s:MS}
theorem reach_sorted(hQ:Q.OK):∃L:List Int,L.Perm (selI (s.reach Q) Q.P.n)∧L.Pairwise fun a b=>zpr (s.v Q) Q.P.lots a b=true:=by
 refine zko (zcw _ _) (fun a ha b hb hne=>?_) (fun a _ b _ c _=>zms)
 obtain⟨i,rfl,hi,_⟩:=zap.1 ha
 obtain⟨k,rfl,hk,_⟩:=zap.1 hb
 exact zmt ((zon hQ.P).mem hi) fun e=>hne (by rw[Int.toNat_natCast,Int.toNat_natCast]at e;rw[e])
theorem zpm(p q:Nat→Bool):∀n:Nat,(selI p n).countP (fun d=>q d.toNat)=cntN (fun d=>p d&&q d) n
 | 0=>rfl
 |n+1=>by
  rw[zdg,List.countP_append,zpm p q n]
  show _=cntN (fun d=>p d&&q d) n+(if(p n&&q n)=true then 1 else 0)
  congr 1
  cases hp:p n
  ·simp
  ·rw[if_pos rfl,List.countP_singleton,Int.toNat_natCast]
   simp
theorem el_take(hQ:Q.OK){L:List Int}(hL:L.Perm (selI (s.reach Q) Q.P.n))(hs:L.Pairwise fun a b=>zpr (s.v Q) Q.P.lots a b=true){i:Nat}(hi:i<Q.P.n):(i:Int)∈L.take (Q.P.seats-s.fl Q)↔s.el Q i=true:=by
 have hrank:∀{j:Nat} (hj:j<L.length),s.rank Q (L[j]).toNat=j:=fun{j} hj=>by
  have h1:=countP_at (R:=zpr (s.v Q) Q.P.lots) hs (fun a _=>better_irr _) (fun a _ b _ h=>better_asym h) hj
  rw[hL.countP_eq]at h1
  have h2:=zpm (s.reach Q) (fun d=>zem (s.v Q) Q.P.lots d (L[j]).toNat) Q.P.n
  exact h2.symm.trans h1
 unfold MS.el
 rw[xaf,xag]
 constructor
 ·intro h
  have hm:=xbv h
  obtain⟨j,hj,e⟩:=xci h
  rw[xfn]at e
  rw[xao]at hj
  have hr:=hrank (j:=j) (by omega)
  rw[e,Int.toNat_natCast]at hr
  obtain⟨k,e2,_,h2⟩:=zap.1 (hL.mem_iff.1 hm)
  have:=xec.1 e2
  subst this
  exact⟨h2,by omega⟩
 ·rintro⟨h1,h2⟩
  have hm:(i:Int)∈L:=hL.mem_iff.2 (zap.2 ⟨i,rfl,hi,h1⟩)
  obtain⟨j,hj,e⟩:=xci hm
  have hr:=hrank hj
  rw[e,Int.toNat_natCast]at hr
  rw[xhi]
  exact⟨j,by omega,e⟩
theorem el_perm(hQ:Q.OK){L:List Int}(hL:L.Perm (selI (s.reach Q) Q.P.n))(hs:L.Pairwise fun a b=>zpr (s.v Q) Q.P.lots a b=true):(L.take (Q.P.seats-s.fl Q)).Perm (selI (s.el Q) Q.P.n):=by
 have hnd:L.Nodup:=hL.nodup_iff.2 (zcw _ _)
 refine(List.perm_ext_iff_of_nodup (hnd.sublist (xhk _ _)) (zcw _ _)).2 fun c=>?_
 constructor
 ·intro h
  obtain⟨i,rfl,hi,_⟩:=zap.1 (hL.mem_iff.1 (xbv h))
  exact zap.2 ⟨i,rfl,hi,(el_take hQ hL hs hi).1 h⟩
 ·intro h
  obtain⟨i,rfl,hi,h2⟩:=zap.1 h
  exact(el_take hQ hL hs hi).2 h2
theorem el_cnt(hQ:Q.OK):cntN (s.el Q) Q.P.n≤Q.P.seats-s.fl Q:=by
 obtain⟨L,hL,hs⟩:=reach_sorted (s:=s) hQ
 rw[←zao,←(el_perm hQ hL hs).length_eq,xao]
 exact xia _ _
theorem f1_le(hQ:Q.OK)(hI:MI Q s):s.f1 Q≤Q.P.seats:=by
 have h1:=f1_eq (Q:=Q) (s:=s)
 have h2:=el_cnt (s:=s) hQ
 have h3:=hI.fill
 omega
theorem zjb(hQ:Q.OK)(hI:MI Q s)(h:s.fin Q=false):s.f1 Q<Q.P.seats∧Q.P.seats<s.f1 Q+s.h1 Q:=by
 unfold MS.fin at h
 rw[xbw,xaw,xaw]at h
 have:=f1_le hQ hI
 omega
theorem some1_iff:s.some1 Q=false↔∀i,i<Q.P.n→s.el Q i=false:=by
 unfold MS.some1
 rw[xaw]
 constructor
 ·intro h i hi
  cases he:s.el Q i
  ·rfl
  ·exact absurd (zni.2 ⟨i,hi,he⟩) h
 ·intro h hc
  obtain⟨i,hi,he⟩:=zni.1 hc
  rw[h i hi]at he
  cases he
theorem el_out{i:Nat}(h:s.some1 Q=false)(hi:i<Q.P.n):s.el Q i=false∧s.st1 Q i=s.st i:=by
 have:=some1_iff.1 h i hi
 refine⟨this,?_⟩
 unfold MS.st1
 rw[this];rfl
theorem near_ne(hI:MI Q s):s.tied Q≠ []:=by
 have hne:selN (fun i=>decide (s.st i=0)) Q.P.n≠ []:=by
  have:=hI.left
  rw[←zby]at this
  exact xce.1 this
 obtain⟨i,k1,k2⟩:=zkp (s.v Q) hne
 obtain⟨k3,k4⟩:=zbz.1 k1
 refine xdu (a:=(i:Int)) (zap.2 ⟨i,rfl,k3,?_⟩)
 unfold MS.near
 rw[k4,xbj,xbi]
 intro k hk
 by_cases h5:s.st k=0
 ·have:=k2 k (zbz.2 ⟨List.mem_range.1 hk,decide_eq_true h5⟩)
  rw[xcy,xag]
  exact .inr (by omega)
 ·simp[h5]
theorem pickM_mem(E:List (List Rat))(h:s.tied Q≠ []):s.pick Q E∈s.tied Q:=by
 unfold MS.pick
 split
 ·exact zfl h
 ·exact zro h
theorem zmy(hI:MI Q s)(E:List (List Rat)):∃x:Nat,s.pick Q E=(x:Int)∧x<Q.P.n∧s.st x=0:=by
 obtain⟨i,h2,h3,h4⟩:=zap.1 (pickM_mem E (near_ne hI))
 refine⟨i,h2,h3,?_⟩
 unfold MS.near at h4
 rw[xaf,xag]at h4
 exact h4.1
theorem hop_excl{x:Nat}(hx:x<Q.P.n)(h0:s.st x=0):cntN (fun i=>decide (s.st i=0)) Q.P.n=cntN (fun i=>decide (upd s.st x 2 i=0)) Q.P.n+1:=
 zlz hx (fun i hi hne=>by rw[zee _ _ hne]) (by rw[zbw];rfl) (decide_eq_true h0)
theorem fl_excl{x:Nat}(hx:x<Q.P.n)(h0:s.st x=0):cntN (fun i=>decide (upd s.st x 2 i=1)) Q.P.n=s.fl Q:=by
 refine zgm fun i hi=>?_
 unfold upd
 split
 ·rename_i e;subst e;rw[h0];rfl
 ·rfl
theorem zpf(hQ:Q.OK)(hI:MI Q s)(hf:s.fin Q=false)(hc:s.cut Q=true)(E:List (List Rat)):MI Q (s.excl Q E)∧(s.excl Q E).meas Q<s.meas Q:=by
 obtain⟨x,h1,h2,h3⟩:=zmy hI E
 have hff:=zjb hQ hI hf
 have hs1:s.some1 Q=false:=by
  unfold MS.cut at hc
  rw[xaf,xho]at hc
  exact hc.1
 have hcnt:cntN (s.el Q) Q.P.n=0:=by
  refine xge fun h=>?_
  unfold MS.some1 at hs1
  rw[xaw]at hs1
  exact hs1 h
 have hf1:=f1_eq (Q:=Q) (s:=s)
 have hh1:=h1_eq (Q:=Q) (s:=s)
 have hh:=hop_excl (Q:=Q) h2 h3
 have hfl:=fl_excl (Q:=Q) h2 h3
 have hsi:=hI.since
 unfold MS.excl
 rw[h1,Int.toNat_natCast]
 refine⟨⟨fun c=>?_,fun c=>?_,fun c hc=>?_,fun c hc=>?_,fun c hc=>?_,xbf _,?_,?_⟩,?_⟩
 ·show upd s.st x 2 c≤2
  unfold upd;split
  ·exact Nat.le_refl _
  ·exact hI.st2 c
 ·show upd s.kp x 0 c≤_
  unfold upd;split
  ·exact xbf _
  ·exact hI.kp1 c
 ·have hc':upd s.st x 2 c=0:=hc
  show upd s.kp x 0 c=_
  unfold upd at hc' ⊢
  split at hc'
  ·omega
  ·rename_i e;rw[if_neg e];exact hI.hop c hc'
 ·have hc':upd s.st x 2 c=1:=hc
  show 0<upd s.kp x 0 c
  unfold upd at hc' ⊢
  split at hc'
  ·omega
  ·rename_i e;rw[if_neg e];exact hI.elc c hc'
 ·have hc':upd s.st x 2 c=2:=hc
  show upd s.kp x 0 c=0
  unfold upd at hc' ⊢
  split at hc'
  ·rename_i e;rw[if_pos e]
  ·rename_i e;rw[if_neg e];exact hI.exc c hc'
 ·show cntN (fun i=>decide (upd s.st x 2 i=1)) Q.P.n<_
  rw[hfl];exact hI.fill
 ·show 0<cntN (fun i=>decide (upd s.st x 2 i=0)) Q.P.n
  omega
 ·show cntN (fun i=>decide (upd s.st x 2 i=0)) Q.P.n*61+(60-0)<cntN (fun i=>decide (s.st i=0)) Q.P.n*61+(60-s.since)
  omega
theorem quo_pos:0<s.quo Q:=Nat.succ_pos _
theorem zog(hQ:Q.OK)(hI:MI Q s)(hf:s.fin Q=false)(hc:s.cut Q=false):MI Q (s.redu Q)∧(s.redu Q).meas Q<s.meas Q:=by
 have hff:=zjb hQ hI hf
 have hf1:=f1_eq (Q:=Q) (s:=s)
 have hh1:=h1_eq (Q:=Q) (s:=s)
 have hsi:=hI.since
 have hst:∀c,s.st1 Q c=2→s.st c=2:=fun c hc=>by
  rcases zbt (Q:=Q) (s:=s) c with⟨_,_,h2,_⟩|⟨_,h2⟩<;>omega
 have hst0:∀c,s.st1 Q c=0→s.st c=0:=fun c hc=>by
  rcases zbt (Q:=Q) (s:=s) c with⟨_,_,h2,_⟩|⟨_,h2⟩<;>omega
 have hsome:s.some1 Q=false→s.since+1<60:=fun h=>by
  unfold MS.cut at hc
  rw[h,xak,xbj]at hc
  unfold MS.stall at hc
  rw[xbw,xbw,xaw,xaw]at hc
  omega
 refine⟨⟨fun c=>?_,fun c=>?_,fun c hc=>?_,fun c hc=>?_,fun c hc=>?_,?_,?_,?_⟩,?_⟩
 ·show s.st1 Q c≤2
  have:=hI.st2 c
  rcases zbt (Q:=Q) (s:=s) c with⟨_,_,h2,_⟩|⟨_,h2⟩<;>omega
 ·show s.kp1 Q c≤_
  unfold MS.kp1;split
  ·exact xia _ _
  ·exact hI.kp1 c
 ·have hc':s.st1 Q c=0:=hc
  show s.kp1 Q c=_
  unfold MS.kp1
  rw[if_neg (by omega)]
  exact hI.hop c (hst0 c hc')
 ·have hc':s.st1 Q c=1:=hc
  have hkp:0<s.kp c:=by
   rcases zbt (Q:=Q) (s:=s) c with⟨_,h1,h2,_⟩|⟨_,h2⟩
   ·rw[hI.hop c h1];exact hQ.one1
   ·exact hI.elc c (by omega)
  show 0<s.kp1 Q c
  unfold MS.kp1;split
  ·rename_i h
   refine Nat.lt_min.2 ⟨hQ.one1,mup_pos h.2 (Nat.mul_pos (mup_pos hQ.one1 (Nat.mul_pos hkp quo_pos)) hQ.one1)⟩
  ·exact hkp
 ·have hc':s.st1 Q c=2:=hc
  show s.kp1 Q c=0
  unfold MS.kp1
  rw[if_neg (by omega)]
  exact hI.exc c (hst c hc')
 ·show(if s.some1 Q then 0 else s.since+1)≤59
  cases h:s.some1 Q
  ·have:=hsome h
   simp only[xax,if_false];omega
  ·simp
 ·show s.f1 Q<_
  omega
 ·show 0<s.h1 Q
  omega
 ·show s.h1 Q*61+(60-(if s.some1 Q then 0 else s.since+1))<cntN (fun i=>decide (s.st i=0)) Q.P.n*61+(60-s.since)
  cases h:s.some1 Q
  ·simp only[xax,if_false];omega
  ·have:0<cntN (s.el Q) Q.P.n:=by
    unfold MS.some1 at h
    exact of_decide_eq_true h
   simp only[if_true];omega
theorem s0_inv(hQ:Q.OK):MI Q Q.s0:=by
 have h1:=hQ.P.seats1
 have h2:=hQ.P.n1
 refine⟨fun _=>xbf _,fun _=>Nat.le_refl _,fun _ _=>rfl,fun _ h=>(by cases h),fun _ h=>(by cases h),xbf _,?_,zni.2 ⟨0,by omega,rfl⟩⟩
 have:Q.s0.fl Q=0:=by unfold MS.fl cntN;exact zcs _
 omega
theorem s0_meas(hQ:Q.OK):Q.s0.meas Q≤487:=by
 have h:=zaw (fun i=>decide (Q.s0.st i=0)) Q.P.n
 have:=hQ.P.n7
 unfold MS.meas
 show _*61+(60-0)≤_
 omega
theorem bzM(hQ:Q.OK){a:Nat}(h:a≤1000000000000000000):Bz eB (frac a Q.one):=by
 have:=hQ.one6
 refine zjk (xdt h (Nat.lt_trans (show(1000000000000000000:Nat)<2^64 by decide) (xeq (by decide) (by decide)))) (xdt this (Nat.lt_trans (show(1000000:Nat)<2^64 by decide) (xeq (by decide) (by decide)))) (by decide)
theorem votes_rndM(hQ:Q.OK)(hI:MI Q s):RndOK Q.P.n (s.rd0 Q).votes:=⟨zaf _ _,fun q hq=>by
 obtain⟨i,hi,rfl⟩:=zhc.1 hq
 have h1:=MS.v_le hQ hI hi
 have h2:=MS.tot_le hQ
 exact bzM hQ (by omega)⟩
structure MRun(Q:MP)(s:MS)(rs:List Rd):Prop where
 inv:MI Q s
 rnd:∀r∈rs,RndOK Q.P.n r.votes∧r.el.length≤7
 len:rs.length+s.meas Q≤487
 run:mrun Q (500-rs.length) rs s=zhs Q
theorem MRun.start(hQ:Q.OK):MRun Q Q.s0 []:=⟨s0_inv hQ,fun r hr=>by simp at hr,by have:=s0_meas hQ;simp;omega,rfl⟩
theorem zph(hQ:Q.OK):(selI (s.el Q) Q.P.n).length≤7:=by rw[zao];have:=zaw (s.el Q) Q.P.n;have:=hQ.P.n7;omega
theorem MRun.next(hQ:Q.OK){rs:List Rd}(h:MRun Q s rs){r:Rd}{s':MS}(hs:mstep Q (rs.map Rd.votes) s=(r,some s'))(hi:MI Q s')(hm:s'.meas Q<s.meas Q)(hv:r.votes=(s.rd0 Q).votes)(he:r.el=(s.rd0 Q).el):MRun Q s' (rs++[r]):=by
 have hl:=h.len
 refine⟨hi,fun x hx=>?_,by simp;omega,?_⟩
 ·rcases List.mem_append.1 hx with hx|hx
  ·exact h.rnd x hx
  ·rw[xbm]at hx
   subst hx
   rw[hv,he]
   exact⟨votes_rndM hQ h.inv,zph hQ⟩
 ·have hr:=h.run
  rw[show 500-rs.length=(499-rs.length)+1 by omega,mrun,hs]at hr
  rw[←hr]
  simp only[List.length_append,xat,xck]
  rw[show 500-(rs.length+(0+1))=499-rs.length by omega]
theorem mstep_fin{E:List (List Rat)}(hf:s.fin Q=true):mstep Q E s=(s.done Q,none):=by unfold mstep;rw[if_pos hf]
theorem mstep_cut{E:List (List Rat)}(hf:s.fin Q=false)(hc:s.cut Q=true):mstep Q E s=(s.exR Q E,some (s.excl Q E)):=by unfold mstep;rw[if_neg (by rw[hf];simp),if_pos hc]
theorem mstep_redu{E:List (List Rat)}(hf:s.fin Q=false)(hc:s.cut Q=false):mstep Q E s=(s.rd0 Q,some (s.redu Q)):=by unfold mstep;rw[if_neg (by rw[hf];simp),if_neg (by rw[hc];simp)]
theorem MRun.fin{rs:List Rd}(h:MRun Q s rs)(hf:s.fin Q=true):rs++[s.done Q]=zhs Q:=by
 have hl:=h.len
 have hr:=h.run
 rw[show 500-rs.length=(499-rs.length)+1 by omega,mrun,mstep_fin hf]at hr
 exact hr
theorem MRun.excl(hQ:Q.OK){rs:List Rd}(h:MRun Q s rs)(hf:s.fin Q=false)(hc:s.cut Q=true):MRun Q (s.excl Q (rs.map Rd.votes)) (rs++[s.exR Q (rs.map Rd.votes)]):=by
 obtain⟨h1,h2⟩:=zpf hQ h.inv hf hc (rs.map Rd.votes)
 exact h.next hQ (mstep_cut hf hc) h1 h2 rfl rfl
theorem MRun.redu(hQ:Q.OK){rs:List Rd}(h:MRun Q s rs)(hf:s.fin Q=false)(hc:s.cut Q=false):MRun Q (s.redu Q) (rs++[s.rd0 Q]):=by
 obtain⟨h1,h2⟩:=zog hQ h.inv hf hc
 exact h.next hQ (mstep_redu hf hc) h1 h2 rfl rfl
inductive MTr(Q:MP):MS→List Rd→List Rd→Prop
 |fin {s:MS} {rs:List Rd}:MRun Q s rs→s.fin Q=true→MTr Q s rs [s.done Q]
 |excl {s:MS} {rs rest:List Rd}:MRun Q s rs→s.fin Q=false→s.cut Q=true→MTr Q (s.excl Q (rs.map Rd.votes)) (rs++[s.exR Q (rs.map Rd.votes)]) rest→MTr Q s rs (s.exR Q (rs.map Rd.votes)::rest)
 |redu {s:MS} {rs rest:List Rd}:MRun Q s rs→s.fin Q=false→s.cut Q=false→MTr Q (s.redu Q) (rs++[s.rd0 Q]) rest→MTr Q s rs (s.rd0 Q::rest)
theorem mtr_ex(hQ:Q.OK):∀(m:Nat) {s:MS} {rs:List Rd},s.meas Q<m→MRun Q s rs→∃rest,MTr Q s rs rest∧rs++rest=zhs Q
 | 0,_,_,h,_=>by omega
 |m+1,s,rs,h,hR=>by
  cases hf:s.fin Q with
  |true=>exact⟨_,.fin hR hf,hR.fin hf⟩
  |false=>
   cases hc:s.cut Q with
   |true=>
    have hme:=(zpf hQ hR.inv hf hc (rs.map Rd.votes)).2
    obtain⟨rest,h1,h2⟩:=mtr_ex hQ m (by omega) (hR.excl hQ hf hc)
    exact⟨_,.excl hR hf hc h1,by rw[←h2,xcj];rfl⟩
   |false=>
    have hme:=(zog hQ hR.inv hf hc).2
    obtain⟨rest,h1,h2⟩:=mtr_ex hQ m (by omega) (hR.redu hQ hf hc)
    exact⟨_,.redu hR hf hc h1,by rw[←h2,xcj];rfl⟩
theorem zkg(hQ:Q.OK):MTr Q Q.s0 [] (zhs Q):=by
 obtain⟨rest,h1,h2⟩:=mtr_ex hQ (Q.s0.meas Q+1) (by omega) (MRun.start hQ)
 rw[xby]at h2
 rwa[h2]at h1
end Go.Proofs.YtamgmpngdmnadaaGreat
namespace Go.Proofs.YtamgmpngdmnadaaGreat
open Go Go.X
variable {P:GP} {s:GS}
def rd0:Rd:=⟨[],[],0,0,0,[],[],[]⟩
theorem drop_getD{α:Type}{l:List α}{i:Nat}(d:α)(h:i<l.length):l.drop i=l.getD i d::l.drop (i+1):=by
 rw[xab,xae h]
 exact List.drop_eq_getElem_cons h
theorem gcount_len(hP:P.OK):(zgh P).length≤1000:=by
 have key:∀(k:Nat) (rs:List Rd) (s:GS),(grun P k rs s).length≤rs.length+k:=by
  intro k
  induction k with
  |zero=>intro rs s;exact Nat.le_refl _
  |succ k ih=>
   intro rs s
   rw[grun]
   split
   ·rename_i r _
    simp
   ·rename_i r s' _
    have:=ih (rs++[r]) s'
    rw[List.length_append]at this
    simp at this
    omega
 have hk:=key (P.n+1) [] g0
 have hn7:=hP.n7
 have e:zgh P=grun P (P.n+1) [] g0:=rfl
 rw[e]
 simp only[xck]at hk
 omega
end Go.Proofs.YtamgmpngdmnadaaGreat
namespace Go.Proofs.YtamgmpngdmnadaaGreat
open Go Go.X
theorem wsum_sumG{n:Int}{gs:List Grp}{N:Int}(h:PileOK n gs N)(b:List Int→Bool)(f:List Int→Int)(hf:∀p,f p=if b p then 1 else 0)(c:CT)(lots:List Int):wsum f gs=((sumN (fun g=>if b ((gpOf c gs lots).p g)then(gpOf c gs lots).k g else 0) gs.length:Nat):Int):=by
 have:=zjo h b c lots gs.length (Nat.le_refl _)
 rw[xay]at this
 rw[←this]
 congr 1
 funext p
 exact hf p
end Go.Proofs.YtamgmpngdmnadaaGreat
namespace Go.Proofs.YtamgmpngdmnadaaGreat
open Go Go.X
theorem zqp{α:Type} [DecidableEq α]:∀{l l':List α},l.Nodup→(∀x∈l,x∈l')→l'.length≤l.length→l.Perm l'
 | [],l',_,_,h=>by
  have:l'=[]:=xde.1 (Nat.le_zero.1 h)
  rw[this]
 |x::l,l',hn,hs,h=>by
  obtain⟨h1,h2⟩:=xfj.1 hn
  have hx:=hs x (by simp)
  have hp:=List.perm_cons_erase hx
  refine List.Perm.trans (List.Perm.cons x (zqp (l':=l'.erase x) h2 (fun y hy=>?_) ?_)) hp.symm
  ·exact(List.mem_erase_of_ne (fun e:y=x=>h1 (by rw[←e];exact hy))).2 (hs y (xah _ hy))
  ·rw[List.length_erase_of_mem hx]
   simp only[xat]at h
   omega
structure Ren(n:Nat)(ρ:Nat→Nat)(l l':List Int):Prop where
 mem:∀i,i<n→((i:Int)∈l↔((ρ i:Nat):Int)∈l')
 len:l.length=l'.length
 ins:∀c∈l,∃i:Nat,c=(i:Int)∧i<n
 ins':∀c∈l',∃i:Nat,c=(i:Int)∧i<n
end Go.Proofs.YtamgmpngdmnadaaGreat
namespace Go.Proofs.YtamgmpngdmnadaaGreat
open Go Go.X
theorem d23_eq{l:List Int}(hl:l.length≤281474976710656):d23 l=some (selI (fun i=>decide ((i:Int)∈l)) 12):=by
 unfold d23
 refine zac (fun i=>(l,selI (fun i=>decide ((i:Int)∈l)) i,(i:Int))) 12 rfl (fun i hi=>?_) (b:=selI (fun i=>decide ((i:Int)∈l)) 12) ?_ rfl
 ·have hc:=zaw (fun i=>decide ((i:Int)∈l)) i
  simp only[decide_eq_true (show(i:Int)<12 by omega),cond_true,zal,d46_eq (i:Int) hl,Option.bind_some,zav (show i<9223372036854775807 by omega),zdg]
  cases decide ((i:Int)∈l)
  ·simp
  ·simp only[cond_true,if_true,zbn (l:=selI (fun i=>decide ((i:Int)∈l)) i) (d:=(i:Int)) (by rw[zao];omega)]
 ·rfl
theorem while_prp{α β γ:Type}{f:α→Option (α⊕β)}{k:β→Option γ}{a0:α}{b:β}{X:Option γ→Prop}(st:Nat→α)(n:Nat)(h0:st 0=a0)(hs:∀i,i<n→f (st i)=some (.inl (st (i+1))))(he:f (st n)=some (.inr b))(hk:X (k b)):X ((zae f a0).bind k):=by
 rw[zac st n h0 hs he rfl];exact hk
end Go.Proofs.YtamgmpngdmnadaaGreat
namespace Go.Proofs.YtamgmpngdmnadaaGreat
open Go Go.X
theorem mem_le{gs:List Grp}(h:∀g∈gs,1≤g.2):0≤wsum (fun _=>1) gs∧∀g∈gs,g.2≤wsum (fun _=>1) gs:=by
 induction gs with
 |nil=>exact⟨by simp[wsum],fun g hg=>by cases hg⟩
 |cons a r ih=>
  obtain⟨h1,h2⟩:=ih fun g hg=>h g (xah _ hg)
  have ha:=h a (by simp)
  have e:wsum (fun _=>1) (a::r)=a.2*1+wsum (fun _=>1) r:=rfl
  rw[e]
  refine⟨by omega,fun g hg=>?_⟩
  rcases xan.1 hg with rfl|hg
  ·omega
  ·have:=h2 g hg;omega
theorem wsum_gen{n:Int}{gs:List Grp}{N:Int}(h:PileOK n gs N)(f:List Int→Nat)(c:CT)(lots:List Int):∀m,m≤gs.length→wsum (fun p=>(f p:Int)) (gs.take m)=((sumN (fun g=>(gpOf c gs lots).k g*f ((gpOf c gs lots).p g)) m:Nat):Int)
 | 0,_=>by simp[wsum,sumN]
 |m+1,hm=>by
  have hg:=(h.ballots _ (zbi (l:=gs) (d:=([],0)) (i:=m) (by omega))).2
  rw[zdp _ gs (by omega),wsum_gen h f c lots m (by omega),sumN]
  have e1:(gpOf c gs lots).p m=(gs.getD m ([],0)).1:=rfl
  have e2:(((gpOf c gs lots).k m:Nat):Int)=(gs.getD m ([],0)).2:=by
   show((gs.getD m ([],0)).2.toNat:Int)=_
   omega
  rw[e1,Int.natCast_add,xfl,e2]
end Go.Proofs.YtamgmpngdmnadaaGreat
namespace Go.Proofs.YtamgmpngdmnadaaGreat
open Go Go.X
theorem znu(f:Nat→Nat){m n:Nat}(h:m≤n):sumN f m≤sumN f n:=by
 induction n with
 |zero=>rw[show m=0 by omega];exact Nat.le_refl _
 |succ n ih=>
  by_cases hm:m=n+1
  ·rw[hm];exact Nat.le_refl _
  ·rw[sumN];have:=ih (by omega);omega
theorem wmul{a b:Nat}(h:a*b≤9223372036854775807):w ((a:Int)*(b:Int))=((a*b:Nat):Int):=by rw[←xfl,zbj (by omega) (by omega)]
theorem wsubN{a b:Nat}(h:b≤a)(ha:a≤9223372036854775807):w ((a:Int)-(b:Int))=((a-b:Nat):Int):=by rw[zbj (by omega) (by omega)];omega
theorem ten_le{d e:Nat}(h:d≤e):10^d≤10^e:=xer (by decide) h
theorem ten_six{d:Nat}(h:d≤6):10^d≤1000000:=Nat.le_trans (ten_le h) (by decide)
theorem ten_pos(d:Nat):0<10^d:=xfv (by decide)
theorem wten{i:Nat}(h:i<18):w (((10^i:Nat):Int)*10)=((10^(i+1):Nat):Int):=by
 have h2:10^(i+1)≤10^18:=ten_le (by omega)
 have h3:(10:Nat)^18=1000000000000000000:=by decide
 rw[h3,xbo]at h2
 rw[xbo]
 generalize 10^i=x at h2 ⊢
 rw[zbj (by omega) (by omega)]
 omega
theorem d87_eq{d:Nat}(h:d≤18):d87 (d:Int)=some ((10^d:Nat):Int):=by
 unfold d87
 refine zac (fun i=>(((10^i:Nat):Int),(d:Int),(i:Int))) d rfl (fun i hi=>?_) ?_ rfl
 ·simp only[dlt hi,cond_true,wten (show i<18 by omega),zav (show i<9223372036854775807 by omega)]
 ·simp only[nlt (Nat.le_refl d),xac]
theorem d216_eq{a b:Nat}(hb:0<b)(h:a+b≤4611686018427387904):d216 (a:Int) (b:Int)=some ((mup a b:Nat):Int):=by
 unfold d216 mup
 have h1:=xdl (a+b-1) b
 have h2:Int.tdiv ((a+b-1:Nat):Int) (b:Int)=(((a+b-1)/b:Nat):Int):=by
  rw[xej (by omega)];rfl
 have h3:w ((a+b-1:Nat):Int)=((a+b-1:Nat):Int):=zbj (by omega) (by omega)
 have h4:w (((a+b-1)/b:Nat):Int)=(((a+b-1)/b:Nat):Int):=by
  generalize(a+b-1)/b=q at h1 ⊢
  exact zbj (by omega) (by omega)
 rw[decide_eq_false (show ¬(b:Int)=0 by omega),xak,cond_true,wadd (by omega),show((a+b:Nat):Int)-1=((a+b-1:Nat):Int) by omega,h3,h2,h4]
def zhr(one:Nat)(kp:Nat→Nat)(p:List Int)(m c:Nat):Nat:=sumN (fun j=>if p.getD j 0=(c:Int)then zha one kp p j else 0) m
def mvoU(P:GP)(one:Nat)(kp:Nat→Nat)(m c:Nat):Nat:=sumN (fun g=>P.k g*mgive one kp (P.p g) c) m
def mroU(P:GP)(one:Nat)(kp:Nat→Nat)(m:Nat):Nat:=sumN (fun g=>P.k g*mw one kp (P.p g) (P.p g).length) m
theorem give_step{one:Nat}{kp:Nat→Nat}{p:List Int}{n j k x:Nat}(V:Nat→Nat)(hx:p.getD j 0=(x:Int)) :
  (lst (fun c=>((V c+k*zhr one kp p j c:Nat):Int)) n).set x (((V x+k*zhr one kp p j x+zha one kp p j*k:Nat)):Int)=lst (fun c=>((V c+k*zhr one kp p (j+1) c:Nat):Int)) n:=by
 rw[zdl]
 refine zax fun c _=>?_
 unfold upd zhr
 rw[sumN,hx]
 by_cases h:c=x
 ·subst h
  rw[if_pos rfl,if_pos rfl,xcb,xbk (zha one kp p j) k,xcn]
 ·rw[if_neg h,if_neg (by omega),xco]
section
variable {gs:List Grp} (c:CT) (lots:List Int) {one:Nat} {kp:Nat→Nat} (h1:0<one) (h6:one≤1000000) (hk:∀i,kp i≤one)
include h1 h6 hk
theorem dis_bounds(hP:sumN (gpOf c gs lots).k gs.length≤100000){g j x:Nat}(hg:g<gs.length)(hj:j<((gpOf c gs lots).p g).length):mvoU (gpOf c gs lots) one kp g x+(gpOf c gs lots).k g*zhr one kp ((gpOf c gs lots).p g) j x≤100000000000∧zha one kp ((gpOf c gs lots).p g) j*(gpOf c gs lots).k g≤100000000000:=by
 have hkg:(gpOf c gs lots).k g≤100000:=Nat.le_trans (zfe hg) hP
 have hmg:∀g m x,m≤((gpOf c gs lots).p g).length→zhr one kp ((gpOf c gs lots).p g) m x≤one:=fun g m x hm=>by
  have e:=mw_sum h1 hk ((gpOf c gs lots).p g) m
  have:zhr one kp ((gpOf c gs lots).p g) m x≤sumN (zha one kp ((gpOf c gs lots).p g)) m:=zdk fun i _=>by split<;>omega
  omega
 have hmp:zha one kp ((gpOf c gs lots).p g) j≤one:=Nat.le_trans (znb h1 hk _ _) (mw_le h1 hk _ _)
 refine⟨?_,Nat.le_trans (Nat.mul_le_mul hmp hkg) (Nat.le_trans (xaj _ h6) (by decide))⟩
 have e1:mvoU (gpOf c gs lots) one kp g x+(gpOf c gs lots).k g*zhr one kp ((gpOf c gs lots).p g) j x≤sumN (fun g=>(gpOf c gs lots).k g*one) (g+1):=by
  rw[sumN]
  refine Nat.add_le_add (zdk fun i _=>xcp _ (hmg i _ x (Nat.le_refl _))) (xcp _ (hmg g j x (by omega)))
 have e2:=znu (fun g=>(gpOf c gs lots).k g*one) (show g+1≤gs.length by omega)
 rw[zfs (gpOf c gs lots).k one gs.length]at e2
 have e3:sumN (gpOf c gs lots).k gs.length*one≤100000*1000000:=Nat.mul_le_mul hP h6
 omega
theorem rest_bounds(hP:sumN (gpOf c gs lots).k gs.length≤100000){g:Nat}(hg:g<gs.length):mroU (gpOf c gs lots) one kp (g+1)≤100000000000∧mw one kp ((gpOf c gs lots).p g) ((gpOf c gs lots).p g).length*(gpOf c gs lots).k g≤100000000000:=by
 have hkg:(gpOf c gs lots).k g≤100000:=Nat.le_trans (zfe hg) hP
 refine⟨?_,Nat.le_trans (Nat.mul_le_mul (mw_le h1 hk _ _) hkg) (Nat.le_trans (xaj _ h6) (by decide))⟩
 have e1:mroU (gpOf c gs lots) one kp (g+1)≤sumN (fun g=>(gpOf c gs lots).k g*one) (g+1):=zdk fun i _=>xcp _ (mw_le h1 hk _ _)
 have e2:=znu (fun g=>(gpOf c gs lots).k g*one) (show g+1≤gs.length by omega)
 rw[zfs (gpOf c gs lots).k one gs.length]at e2
 have e3:sumN (gpOf c gs lots).k gs.length*one≤100000*1000000:=Nat.mul_le_mul hP h6
 omega
end
theorem pile_k{n:Nat}{gs:List Grp}{N:Int}(hp:PileOK (n:Int) gs N)(c:CT)(lots:List Int):sumN (gpOf c gs lots).k gs.length≤100000∧∀g,g<gs.length→(gs.getD g ([],0)).2=(((gpOf c gs lots).k g:Nat):Int):=by
  have h:=wsum_gen hp (fun _=>1) c lots _ (Nat.le_refl _)
  rw[xay]at h
  have ht:=hp.total
  have hm:=hp.most
  have e:wsum (fun _=>((1:Nat):Int)) gs=wsum (fun _=>1) gs:=rfl
  rw[e,ht]at h
  simp only[xda]at h
  refine ⟨by have e2:sumN (gpOf c gs lots).k gs.length=sumN (fun g=>(gpOf c gs lots).k g) gs.length:=rfl
             omega,fun g hg=>?_⟩
  have:=(hp.ballots _ (zbi (l:=gs) (d:=([],0)) (i:=g) hg)).2
  show _=((gs.getD g ([],0)).2.toNat:Int)
  omega
theorem d152_ok{n d:Nat}{gs:List Grp}{N:Int}(h1n:1≤n)(hn:n≤7)(hd1:1≤d)(hd6:d≤6)(hp:PileOK (n:Int) gs N)(c:CT)(lots:List Int){kp:Nat→Nat}(hk:∀i,kp i≤10^d) :
  d152 (d:Int) (lst (fun i=>(kp i:Int)) n) gs=some (lst (fun x=>((mvo (gpOf c gs lots) (10^d) kp x:Nat):Int)) n,((mro (gpOf c gs lots) (10^d) kp:Nat):Int),true):=by
 have ho1:=ten_pos d
 have ho6:=ten_six hd6
 obtain⟨hks,hkg⟩:=pile_k hp c lots
 have hgl:=(hp.gs (by omega)).1
 have h111:=d87_eq (d:=d) (by omega)
 have h120:d215 (n:Int) gs=some true:=by
  unfold d215
  rw[decide_eq_true (show(1:Int)≤(n:Int) by omega),cond_true,decide_eq_true (show(n:Int)≤7 by omega),cond_true,hp.d133 (by omega)];rfl
 have hball:∀g,g<gs.length→isB (n:Int) ((gpOf c gs lots).p g):=fun g hg=>(hp.ballots _ (zbi (l:=gs) (d:=([],0)) (i:=g) hg)).1
 have hdb:=fun g j x hg hj=>dis_bounds c lots ho1 ho6 hk hks (g:=g) (j:=j) (x:=x) hg hj
 have hrb:=fun g hg=>rest_bounds c lots ho1 ho6 hk hks (g:=g) hg
 have hmp:∀p j,zha (10^d) kp p j≤10^d:=fun p j=>Nat.le_trans (znb ho1 hk _ _) (mw_le ho1 hk _ _)
 have hmw:∀p j,mw (10^d) kp p j≤10^d:=fun p j=>mw_le ho1 hk _ _
 have hmst:∀p j,mw (10^d) kp p j-zha (10^d) kp p j=mw (10^d) kp p (j+1):=fun p j=>rfl
 have hmpe:∀p j,zha (10^d) kp p j=mup (mw (10^d) kp p j*kp (p.getD j 0).toNat) (10^d):=fun p j=>rfl
 have hmpl:=fun p j=>znb ho1 hk p j
 unfold d152
 simp only[zaf,zal,decide_eq_false (show ¬(d:Int)<1 by omega),decide_eq_false (show ¬(6:Int)<(d:Int) by omega),xak,cond_true,h120,Option.bind_some,xam,xac,h111]
 generalize hone:10^d=one at *
 refine zac (fun i=>(lst (fun i=>(kp i:Int)) n,gs,(0:Int),(one:Int),lst (fun i=>(kp i:Int)) n,(n:Int),(i:Int))) n rfl (fun i hi=>?_) (b:=.inl (lst (fun i=>(kp i:Int)) n,gs,(0:Int),(one:Int))) ?_ ?_
 ·have:=hk i
  simp only[dlt hi,d0le,zaf,xad,cond_true,tn,zan (fun i=>(kp i:Int)) hi,decide_eq_false (show ¬(kp i:Int)<0 by omega),xak,nlt this,xac,zav (show i<9223372036854775807 by omega)]
 ·simp only[nlt (Nat.le_refl n),xac]
 simp only[zaf,xaq,d0le,zbq (n:=n) (by omega),xad,cond_true,tn]
 have hrep:List.replicate n (0:Int)=lst (fun x=>((mvoU (gpOf c gs lots) one kp 0 x:Nat):Int)) n:=by rw[zol];rfl
 rw[hrep]
 refine zac (fun g=>(lst (fun i=>(kp i:Int)) n,lst (fun x=>((mvoU (gpOf c gs lots) one kp g x:Nat):Int)) n,((mroU (gpOf c gs lots) one kp g:Nat):Int),(one:Int),gs,(gs.length:Int),(g:Int))) gs.length rfl (fun g hg=>?_) (b:=(lst (fun x=>((mvo (gpOf c gs lots) one kp x:Nat):Int)) n,((mro (gpOf c gs lots) one kp:Nat):Int))) ?_ rfl
 ·have hbg:=hball g hg
  have hpl:=zga hbg (by omega)
  have hpg:(gs.getD g ([],0)).1=(gpOf c gs lots).p g:=rfl
  have hgk:=hkg g hg
  have hrb:=hrb g hg
  have hdb:=fun j x hj=>hdb g j x hg hj
  have hmvo:∀x,mvoU (gpOf c gs lots) one kp g x+(gpOf c gs lots).k g*zhr one kp ((gpOf c gs lots).p g) ((gpOf c gs lots).p g).length x=mvoU (gpOf c gs lots) one kp (g+1) x:=fun x=>rfl
  have hmro:mroU (gpOf c gs lots) one kp (g+1)=mroU (gpOf c gs lots) one kp g+(gpOf c gs lots).k g*mw one kp ((gpOf c gs lots).p g) ((gpOf c gs lots).p g).length:=rfl
  obtain⟨pr,hpr⟩:∃pr,gs.getD g ([],0)=pr:=⟨_,rfl⟩
  rw[hpr]at hpg hgk
  obtain⟨p',k'⟩:=pr
  simp only at hpg hgk
  subst hgk
  generalize(gpOf c gs lots).p g=p at *
  subst hpg
  generalize(gpOf c gs lots).k g=k at *
  simp only[dlt hg,d0le,xad,cond_true,tn,hpr]
  refine zac (fun j=>(lst (fun i=>(kp i:Int)) n,lst (fun x=>((mvoU (gpOf c gs lots) one kp g x+k*zhr one kp p' j x:Nat):Int)) n,((mroU (gpOf c gs lots) one kp g:Nat):Int),(one:Int),((p',(k:Int)):List Int×Int),((mw one kp p' j:Nat):Int),gs,(gs.length:Int),(g:Int),p',(p'.length:Int),(j:Int))) p'.length rfl (fun j hj=>?_) (b:=(lst (fun i=>(kp i:Int)) n,lst (fun x=>((mvoU (gpOf c gs lots) one kp (g+1) x:Nat):Int)) n,((mroU (gpOf c gs lots) one kp g:Nat):Int),(one:Int),((p',(k:Int)):List Int×Int),((mw one kp p' p'.length:Nat):Int),gs,(gs.length:Int),(g:Int))) ?_ ?_
  ·have hb:=hbg.2 _ (zca hj)
   obtain⟨x,hx⟩:∃x:Nat,p'.getD j 0=(x:Int):=⟨(p'.getD j 0).toNat,by omega⟩
   have hxn:x<n:=by omega
   have h1:=hmw p' j
   have h2:=hk x
   have h3:mw one kp p' j*kp x≤1000000*1000000:=Nat.mul_le_mul (by omega) (by omega)
   have h4:=hmpe p' j
   rw[hx,Int.toNat_natCast]at h4
   have h5:=hdb j x hj
   have h6:=hmp p' j
   have h7:=hmst p' j
   have h8:=hmpl p' j
   have hgs:=give_step (n:=n) (k:=k) (one:=one) (kp:=kp) (fun x=>mvoU (gpOf c gs lots) one kp g x) hx
   simp only[dlt hj,d0le,xad,cond_true,tn,hx,zaf,dlt hxn,zan (fun i=>(kp i:Int)) hxn,wmul (show mw one kp p' j*kp x≤9223372036854775807 by omega),d216_eq ho1 (show mw one kp p' j*kp x+one≤4611686018427387904 by omega),Option.bind_some,←h4,zan (fun x=>((mvoU (gpOf c gs lots) one kp g x+k*zhr one kp p' j x:Nat):Int)) hxn,wmul (show zha one kp p' j*k≤9223372036854775807 by omega),wadd (show mvoU (gpOf c gs lots) one kp g x+k*zhr one kp p' j x+zha one kp p' j*k≤9223372036854775807 by omega),hgs,wsubN h8 (by omega),h7,zav (show j<9223372036854775807 by omega)]
  ·simp only[nlt (Nat.le_refl p'.length),xac,hmvo]
  ·have h9:=hmw p' p'.length
   rw[xbk]at hrb
   simp only[wmul (show mw one kp p' p'.length*k≤9223372036854775807 by have:=hrb.2;rw[xbk];omega),wadd (show mroU (gpOf c gs lots) one kp g+mw one kp p' p'.length*k≤9223372036854775807 by rw[xbk (mw one kp p' p'.length)];omega),zav (show g<9223372036854775807 by omega),hmro,xbk k]
 ·simp only[nlt (Nat.le_refl gs.length),xac]
  rfl
end Go.Proofs.YtamgmpngdmnadaaGreat
namespace Go.Proofs.YtamgmpngdmnadaaGreat
open Go Go.X
theorem swap_eq(A:List Int)(y x:Int)(T:List Int):((A++y::x::T).set (A.length+1) y).set A.length x=A++x::y::T:=by
 rw[xek _ _ (by omega),show A.length+1-A.length=1 by omega]
 rw[xek _ _ (by omega),Nat.sub_self]
 rfl
theorem getD_mid(A:List Int)(y:Int)(T:List Int):(A++y::T).getD A.length 0=y:=by
 rw[xab,xcg (Nat.le_refl _),Nat.sub_self];rfl
theorem getD_mid1(A:List Int)(y x:Int)(T:List Int):(A++y::x::T).getD (A.length+1) 0=x:=by
 rw[xab,xcg (by omega),show A.length+1-A.length=1 by omega];rfl
noncomputable def insF:(List Int) × Int × Int × (Int→Int→Option Int) × Int × Int→Option (((List Int) × Int × Int × (Int→Int→Option Int) × Int × Int) ⊕ ((List Int) × Int × Int × (Int→Int→Option Int) × Int)):=fun ((data_2,a_2,b_2,cmp_2,i_1,j_):(List Int) × Int × Int × (Int→Int→Option Int) × Int × Int) =>
            letJ (fun ((data_3,a_3,b_3,cmp_3,i_2,j__1,t34):(List Int) × Int × Int × (Int→Int→Option Int) × Int × Int × Bool) =>
                bif t34 then
                  bif (decide (0≤(w (j__1-1)))&&decide ((w (j__1-1))<(data_3.length:Int)))then
                    bif (decide (0≤j__1)&&decide (j__1<(data_3.length:Int)))then
                      bif (decide (0≤j__1)&&decide (j__1<(data_3.length:Int)))then
                        bif (decide (0≤(w (j__1-1)))&&decide ((w (j__1-1))<((List.set data_3 (Int.toNat j__1) (List.getD data_3 (Int.toNat (w (j__1-1))) 0)).length:Int)))then
                          some (Sum.inl ((List.set (List.set data_3 (Int.toNat j__1) (List.getD data_3 (Int.toNat (w (j__1-1))) 0)) (Int.toNat (w (j__1-1))) (List.getD data_3 (Int.toNat j__1) 0)),a_3,b_3,cmp_3,i_2,(w (j__1-1))))
                        else none
                      else none
                    else none
                  else none
                else
                  some (Sum.inr (data_3,a_3,b_3,cmp_3,i_2))) fun j__2=>
            bif (decide (a_2<j_))then
              bif (decide (0≤j_)&&decide (j_<(data_2.length:Int)))then
                bif (decide (0≤(w (j_-1)))&&decide ((w (j_-1))<(data_2.length:Int)))then
                  (cmp_2 (List.getD data_2 (Int.toNat j_) 0) (List.getD data_2 (Int.toNat (w (j_-1))) 0)).bind fun r=>
                  j__2 (data_2,a_2,b_2,cmp_2,i_1,j_,(decide (r<0)))
                else none
              else none
            else
              j__2 (data_2,a_2,b_2,cmp_2,i_1,j_,false)
theorem d288_ex{l:List Int}{cmp:Int→Int→Option Int}{g:Int→Int→Int}(hl:l.length≤1000)(hn:l.Nodup)(hc:∀a∈l,∀b∈l,cmp a b=some (g a b))(ht:∀a∈l,∀b∈l,a≠b→g a b<0∨g b a<0)(htr:∀a∈l,∀b∈l,∀c∈l,g a b<0→g b c<0→g a c<0) :
  ∃L,d288 l 0 (l.length:Int) cmp=some L∧L.Perm l∧L.Pairwise fun a b=>g a b<0:=by
 cases l with
 |nil=>
  refine⟨[],?_,xfr _,by simp⟩
  unfold d288
  refine zac (fun i=>([],0,(([]:List Int).length:Int),cmp,w (0+1))) 0 rfl (fun i hi=>by omega) (b:=([]:List Int)) ?_ rfl
  rfl
 |cons x0 l0=>
 generalize hll:x0::l0=l at *
 have hpos:1≤l.length:=by rw[←hll];simp
 unfold d288
 refine zbv (Q:=fun(r:Option (List Int))=>∃L:List Int,r=some L∧L.Perm l∧L.Pairwise fun a b=>g a b<0) (fun(i:Nat) (st:(List Int)×Int×Int×(Int→Int→Option Int)×Int)=>∃S:List Int,st=(S++l.drop (i+1),0,(l.length:Int),cmp,((i+1:Nat):Int))∧S.Perm (l.take (i+1))∧(S.Pairwise fun a b=>g a b<0)) (l.length-1) ?_ ?_ ?_
 ·refine⟨l.take 1,by rw[xcx];rfl,xfr _,?_⟩
  rw[←hll];simp
 ·rintro i st hi ⟨S,rfl,hS,hs⟩
  have hi1:i+1<l.length:=by omega
  obtain⟨x,hx⟩:∃x,l.getD (i+1) 0=x:=⟨_,rfl⟩
  have hdrop:l.drop (i+1)=x::l.drop (i+2):=by rw[←hx];exact drop_getD 0 hi1
  have hSl:S.length=i+1:=by rw[hS.length_eq,xao];omega
  have hmS:∀a∈S,a∈l:=fun a ha=>xbv (hS.mem_iff.1 ha)
  have hxm:x∈l:=by rw[←hx];exact zca hi1
  have hxS:x∉S:=fun h=>by
   have h1:=hS.mem_iff.1 h
   have h2:l.take (i+1)++l.drop (i+1)=l:=xcx _ _
   have h3:(l.take (i+1)++l.drop (i+1)).Nodup:=by rw[h2];exact hn
   exact(xew.1 h3).2.2 x h1 x (by rw[hdrop];simp) rfl
  have htk:l.take (i+2)=l.take (i+1)++[x]:=by rw[←hx];exact zbc l 0 hi1
  rw[hdrop]
  generalize l.drop (i+2)=T at *
  have hdlen:∀A B:List Int,S=A++B→(A++x::(B++T)).length=(S++x::T).length:=fun A B e=>by rw[e];simp;omega
  have htot:(S++x::T).length≤1000:=by
   rw[←hdrop,List.length_append,hSl,xdw]
   omega
  have hin:∃S':List Int,zae insF (S++x::T,0,(l.length:Int),cmp,((i+1:Nat):Int),((i+1:Nat):Int))=some (S'++T,0,(l.length:Int),cmp,((i+1:Nat):Int))∧S'.Perm (l.take (i+2))∧(S'.Pairwise fun a b=>g a b<0):=by
   have key:=zes (γ:=(List Int)×Int×Int×(Int→Int→Option Int)×Int) (k:=some) (Q:=fun r=>∃S':List Int,r=some (S'++T,0,(l.length:Int),cmp,((i+1:Nat):Int))∧S'.Perm (l.take (i+2))∧(S'.Pairwise fun a b=>g a b<0))
    (f:=insF) (a0:=(S++x::T,0,(l.length:Int),cmp,((i+1:Nat):Int),((i+1:Nat):Int)))
    (fun(m:Nat) (st:(List Int)×Int×Int×(Int→Int→Option Int)×Int×Int)=>∃A B:List Int,st=(A++x::(B++T),0,(l.length:Int),cmp,((i+1:Nat):Int),(m:Int))∧S=A++B∧A.length=m∧∀b∈B,g x b<0) (i+1) ⟨S,[],rfl,by simp,hSl,by simp⟩ (fun m st hst=>?_)
   ·obtain⟨S',h1,h2,h3⟩:=key
    refine⟨S',?_,h2,h3⟩
    rw[xaz]at h1
    obtain⟨b,h4,h5⟩:=h1
    exact h4.trans h5
   ·obtain⟨A,B,rfl,hAB,hAm,hB⟩:=hst
    have hstop:(∀a∈A,g a x<0)→∃S':List Int,some (A++x::(B++T),(0:Int),(l.length:Int),cmp,((i+1:Nat):Int))=some (S'++T,0,(l.length:Int),cmp,((i+1:Nat):Int))∧S'.Perm (l.take (i+2))∧(S'.Pairwise fun a b=>g a b<0):=fun hA=>by
     refine⟨A++x::B,by rw[xcj,xbn],?_,?_⟩
     ·rw[htk]
      refine List.perm_middle.trans ?_
      rw[←hAB]
      exact(xgl (l₁:=[x]) (l₂:=S)).trans (xhx _ hS)
     ·rw[hAB,xcq]at hs
      rw[xcq,xcc]
      refine⟨hs.1,⟨hB,hs.2.1⟩,fun a ha b hb=>?_⟩
      rcases xan.1 hb with rfl|hb
      ·exact hA a ha
      ·exact hs.2.2 a ha b hb
    cases m with
    |zero=>
     have hA0:A=[]:=xde.1 hAm
     refine .inr ⟨(A++x::(B++T),0,(l.length:Int),cmp,((i+1:Nat):Int)),?_,hstop (by rw[hA0];simp)⟩
     unfold insF
     simp only[zal,show decide ((0:Int)<((0:Nat):Int))=false from rfl,xac]
    |succ m=>
     obtain⟨A',y,rfl⟩:∃A' y,A=A'++[y]:=by
      rcases xel A with rfl|⟨A',y,h⟩
      ·simp at hAm
      ·exact⟨A',y,by rw[h,xen]⟩
     have hA'm:A'.length=m:=by simpa using hAm
     subst hA'm
     have hym:y∈S:=by rw[hAB];simp
     have hyl:=hmS y hym
     have hlen:=hdlen _ B hAB
     have e0:A'++[y]++x::(B++T)=A'++y::x::(B++T):=by simp
     rw[e0]at hlen ⊢
     have hlA:(A'++y::x::(B++T)).length≤1000:=by omega
     have hm1:A'.length+1<(A'++y::x::(B++T)).length:=by simp
     have hm0:A'.length<(A'++y::x::(B++T)).length:=by simp
     have hgx:=getD_mid1 A' y x (B++T)
     have hgy:=getD_mid A' y (x::(B++T))
     have hsw:=swap_eq A' y x (B++T)
     by_cases hlt:g x y<0
     ·refine .inl ⟨(A'++x::y::(B++T),0,(l.length:Int),cmp,((i+1:Nat):Int),(A'.length:Int)),A'.length,?_,by omega,A',y::B,rfl,by rw[hAB];simp,rfl,fun b hb=>?_⟩
      ·unfold insF
       simp only[zal,decide_eq_true (show(0:Int)<((A'.length+1:Nat):Int) by omega),cond_true,d0le,dlt hm1,dlt hm0,xad,tn,zrl (show A'.length<9223372036854775807 by omega),hgx,hgy,hc x hxm y hyl,Option.bind_some,decide_eq_true hlt,List.length_set,hsw]
      ·rcases xan.1 hb with rfl|hb
       ·exact hlt
       ·exact hB b hb
     ·have hyx:g y x<0:=(ht y hyl x hxm (fun e=>hxS (by rw[←e];exact hym))).resolve_right hlt
      have hst:=hstop (fun a ha=>by
       rcases List.mem_append.1 ha with ha|ha
       ·refine htr a (hmS a (by rw[hAB];simp[ha])) y hyl x hxm ?_ hyx
        rw[hAB,xcq,xcq]at hs
        exact hs.1.2.2 a ha y (by simp)
       ·rw[xbm.1 ha];exact hyx)
      rw[e0]at hst
      refine .inr ⟨(A'++y::x::(B++T),0,(l.length:Int),cmp,((i+1:Nat):Int)),?_,hst⟩
      unfold insF
      simp only[zal,decide_eq_true (show(0:Int)<((A'.length+1:Nat):Int) by omega),cond_true,d0le,dlt hm1,dlt hm0,xad,tn,zrl (show A'.length<9223372036854775807 by omega),hgx,hgy,hc x hxm y hyl,Option.bind_some,decide_eq_false hlt,xac]
  obtain⟨S',h1,h2,h3⟩:=hin
  refine⟨(S'++T,0,(l.length:Int),cmp,((i+1+1:Nat):Int)),?_,S',rfl,h2,h3⟩
  show(bif decide (((i+1:Nat):Int)<(l.length:Int))then(zae insF (S++x::T,(0:Int),(l.length:Int),cmp,((i+1:Nat):Int),((i+1:Nat):Int))).bind (fun p=>some (Sum.inl (p.1,p.2.1,p.2.2.1,p.2.2.2.1,w (p.2.2.2.2+1))))else some (Sum.inr (S++x::T)))=_
  rw[dlt hi1,cond_true,h1,Option.bind_some,zav (show i+1<9223372036854775807 by omega)]
 ·rintro st ⟨S,rfl,hS,hs⟩
  rw[show l.length-1+1=l.length by omega,xay]at hS
  refine⟨S++l.drop (l.length-1+1),?_,S,?_,hS,hs⟩
  ·simp only[show l.length-1+1=l.length by omega,nlt (Nat.le_refl l.length),xac]
  ·rw[List.drop_of_length_le (by omega),xbq]
theorem d218_ex{l:List Int}{cmp:Int→Int→Option Int}{g:Int→Int→Int}(hl:l.length≤12)(hn:l.Nodup)(hc:∀a∈l,∀b∈l,cmp a b=some (g a b))(ht:∀a∈l,∀b∈l,a≠b→g a b<0∨g b a<0)(htr:∀a∈l,∀b∈l,∀c∈l,g a b<0→g b c<0→g a c<0) :
  ∃L,d218 l cmp=some L∧L.Perm l∧L.Pairwise fun a b=>g a b<0:=by
 obtain⟨L,h1,h2,h3⟩:=d288_ex (by omega) hn hc ht htr
 refine⟨L,?_,h2,h3⟩
 unfold d218
 have e208:∀x,d183 x=some (Lib.bitLen x.toNat:Int):=fun x=>rfl
 rw[e208,Option.bind_some]
 have hw:w ((l.length:Int)-0)=(l.length:Int):=zbj (by omega) (by omega)
 show((d263N 2 l 0 (l.length:Int) _ cmp).bind fun r_1=>some r_1)=_
 show((d263F (d263N 1) l 0 (l.length:Int) _ cmp).bind fun r_1=>some r_1)=_
 unfold d263F
 generalize((Lib.bitLen (wu64 (l.length:Int)).toNat:Nat):Int)=t3
 refine xaz.2 ⟨L,?_,rfl⟩
 refine zac (fun _=>(l,0,(l.length:Int),t3,cmp,true,true)) 0 rfl (fun i hi=>by omega) (b:=L) ?_ rfl
 simp only[hw,decide_eq_true (show(l.length:Int)≤12 by omega),cond_true,h1,Option.bind_some]
theorem zsx{a b:Nat}(ha:a≤9223372036854775807)(hb:b≤9223372036854775807)(hb0:0<b):d154 (a:Int) (b:Int)=some (rr (frac a b)):=by
 unfold d154
 have h1:=zhd (n:=a) (by omega)
 have h2:=zhd (n:=b) (by omega)
 rw[d165_eq (by omega) (by omega),d165_eq (by omega) (by omega),Option.bind_some,Option.bind_some,decide_eq_false (show ¬(a:Int)<0 by omega),decide_eq_false (show ¬(b:Int)<0 by omega),xhg,xhg,zlx _ (zak _) (zak _) (by omega) (by omega),zaq,zaq]
 show some (rr (mkRat (a:Int) b))=_
 rw[Rat.mkRat_eq_div]
 rfl
end Go.Proofs.YtamgmpngdmnadaaGreat
namespace Go.Proofs.YtamgmpngdmnadaaGreat
open Go Go.X
abbrev MT:=CT×(List Grp×(List Int×(Int×(List Int×(List Int×(Int×(List (List Rt)×(Int×(Int×(Int×(Int×(Int×(Int×(List RD×List Int))))))))))))))
theorem zly{k:MT}{st:Nat→Nat}{n:Nat}(hk:k.2.2.2.2.1=lst (fun i=>(st i:Int)) n)(hn:n≤1000)(x:Nat):d157 k (x:Int)=some (selI (fun i=>decide (st i=x)) n):=by
 unfold d157
 rw[hk,zaf]
 refine zac (fun i=>((x:Int),selI (fun i=>decide (st i=x)) i,lst (fun i=>(st i:Int)) n,(n:Int),(i:Int))) n rfl (fun i hi=>?_) ?_ rfl
 ·have hl:(selI (fun i=>decide (st i=x)) i).length+1≤4294967296:=by
   rw[zao];have:=zaw (fun i=>decide (st i=x)) i;omega
  rw[zdg]
  simp only[dlt hi,d0le,zaf,xad,cond_true,tn,zan _ hi,zal,zeu,zav (show i<9223372036854775807 by omega)]
  by_cases h:st i=x
  ·rw[decide_eq_true h,cond_true,zbn hl,cond_true];rfl
  ·rw[decide_eq_false h,xac];simp
 ·simp only[nlt (Nat.le_refl n),xac]
theorem d153_eq{k:MT}{v:Nat→Nat}{n one:Nat}(hk:k.2.2.2.1=(one:Int))(hn:n≤1000)(h1:0<one)(h6:one≤1000000)(hv:∀i,i<n→v i≤9223372036854775807):d153 k (lst (fun i=>(v i:Int)) n)=some (lst (fun i=>rr (frac (v i) one)) n):=by
 unfold d153
 rw[zaf]
 refine zac (fun i=>(k,lst (fun i=>rr (frac (v i) one)) i,lst (fun i=>(v i:Int)) n,(n:Int),(i:Int))) n rfl (fun i hi=>?_) ?_ rfl
 ·have hl:=zbn (l:=lst (fun i=>rr (frac (v i) one)) i) (d:=rr (frac (v i) one)) (by rw[zaf];omega)
  rw[zaf]at hl
  simp only[dlt hi,d0le,zaf,xad,cond_true,tn,zan (fun i=>(v i:Int)) hi,hk,zsx (hv i hi) (show one≤9223372036854775807 by omega) h1,Option.bind_some,zav (show i<9223372036854775807 by omega),hl,zet]
 ·simp only[nlt (Nat.le_refl n),xac]
theorem d155_eq{c:CT}{gs:List Grp}{lots:List Int}{one:Int}{st:Nat→Nat}{n:Nat}{kp:List Int}{filled:Nat}{rest:List (List Rt)×(Int×(Int×(Int×(Int×(Int×(Int×(List RD×List Int)))))))}
  {v kk:List Rt} {qu ex su:Rt} {el ex2 ti:List Int} {L:List Nat} (hn:n≤7) (hL:∀i∈L,i<n) (hLl:L.length≤7) (hf:filled≤1000) (hel:el.length≤1000) :
  d155 (c,gs,lots,one,lst (fun i=>(st i:Int)) n,kp,(filled:Int),rest) (v,kk,qu,ex,su,el,ex2,ti) (L.map Int.ofNat)
   =some ((c,gs,lots,one,lst (fun i=>((zdf st L 1 i:Nat):Int)) n,kp,((filled+L.length:Nat):Int),rest),(v,kk,qu,ex,su,zch (el++L.map Int.ofNat),ex2,ti)):=by
 unfold d155
 have hLi:(L.map Int.ofNat).length=L.length:=xau ..
 rw[hLi]
 refine zac (fun j=>((c,gs,lots,one,lst (fun i=>((zdf st (L.take j) 1 i:Nat):Int)) n,kp,((filled+j:Nat):Int),rest),(v,kk,qu,ex,su,el++(L.take j).map Int.ofNat,ex2,ti),L.map Int.ofNat,(L.length:Int),(j:Int))) L.length ?_ (fun j hj=>?_) (b:=((c,gs,lots,one,lst (fun i=>((zdf st L 1 i:Nat):Int)) n,kp,((filled+L.length:Nat):Int),rest),(v,kk,qu,ex,su,el++L.map Int.ofNat,ex2,ti))) ?_ ?_
 ·rw[xcz,zla,xga,xbq];rfl
 ·have hm:L.getD j 0∈L:=by
   rw[xab,xae hj]
   exact xbe hj
  have hg:=hL _ hm
  have hsg:(L.map Int.ofNat).getD j 0=((L.getD j 0:Nat):Int):=by
   rw[xab,xbr,xae hj,xab,xae hj];rfl
  have hll:(el++(L.take j).map Int.ofNat).length+1≤4294967296:=by rw[List.length_append,xau,xao];omega
  simp only[dlt hj,d0le,hLi,xad,cond_true,tn,hsg,zaf,dlt hg,zbn hll,zav (show j<9223372036854775807 by omega),zav (show filled+j<9223372036854775807 by omega),zdl]
  have e:lst (upd (fun i=>((zdf st (L.take j) 1 i:Nat):Int)) (L.getD j 0) 1) n=lst (fun i=>((zdf st (L.take (j+1)) 1 i:Nat):Int)) n:=zax fun i hi=>by
   rw[zbc L 0 hj,←zjj]
   unfold upd
   split<;>rfl
  rw[e,zbc L 0 hj,xcd,xcj]
  rfl
 ·simp only[nlt (Nat.le_refl L.length),xac,xay]
 ·have hd:d98 (el++L.map Int.ofNat)=some (zch (el++L.map Int.ofNat)):=by
   unfold d98
   rw[zbq (by rw[List.length_append,hLi];omega)];rfl
  simp only[hd,Option.bind_some]
def cmpM(v:Nat→Nat)(lots:List Int)(a b:Int):Int:=if v a.toNat=v b.toNat then(zct lots a:Int)-(zct lots b:Int)else(v b.toNat:Int)-(v a.toNat:Int)
theorem zma(v:Nat→Nat)(lots:List Int)(a b:Nat):cmpM v lots (a:Int) (b:Int)<0↔zem v lots a b=true:=by
 unfold cmpM zem
 rw[Int.toNat_natCast,Int.toNat_natCast]
 simp only[xcy,xaf,xag]
 split<;>omega
theorem d219_eq{v:Nat→Nat}{n:Nat}{k:MT}{lots:List Int}(hk:k.2.2.1=lots)(hl:LotsOK n lots)(hv:∀i,i<n→v i≤1000000000000){a b:Nat}(ha:a<n)(hb:b<n):d219 (a:Int) (b:Int) (lst (fun i=>(v i:Int)) n) k=some (cmpM v lots (a:Int) (b:Int)):=by
 have h1:=hv a ha
 have h2:=hv b hb
 have h7:=hl.n7
 have hll:=hl.len
 have h3:=zpj (s:=lots) (a:Int) (by omega)
 have h4:=zpj (s:=lots) (b:Int) (by omega)
 rw[zhi]at h3 h4
 have p1:lots.idxOf (a:Int)<lots.length:=xgv (hl.mem ha)
 have p2:lots.idxOf (b:Int)<lots.length:=xgv (hl.mem hb)
 rw[if_pos p1]at h3
 rw[if_pos p2]at h4
 unfold d219 cmpM zct
 simp only[d0le,zaf,dlt ha,dlt hb,xad,cond_true,tn,zan (fun i=>(v i:Int)) ha,zan (fun i=>(v i:Int)) hb,zeu,hk,h3,h4,Option.bind_some]
 by_cases h:v a=v b
 ·rw[if_pos h,decide_eq_true h,xam,xac,zbj (by omega) (by omega)]
 ·rw[if_neg h,decide_eq_false h,xak,cond_true,zbj (by omega) (by omega)]
variable {Q:MP} {s:MS}
theorem d156_ex(hQ:Q.OK)(hI:MI Q s){k:MT}(hst:k.2.2.2.2.1=lst (fun i=>(s.st i:Int)) Q.P.n)(hlo:k.2.2.1=Q.P.lots)(hse:k.1.2.2.2.1=(Q.P.seats:Int))(hfl:k.2.2.2.2.2.2.1=(s.fl Q:Int)) :
  ∃L:List Nat,d156 k (lst (fun i=>((s.v Q i:Nat):Int)) Q.P.n) ((s.quo Q:Nat):Int)=some (L.map Int.ofNat)∧(L.map Int.ofNat).Perm (selI (s.el Q) Q.P.n):=by
 have hn7:=hQ.P.n7
 have hs5:=hQ.P.seats5
 have hfill:=hI.fill
 have hv:∀i,i<Q.P.n→s.v Q i≤1000000000000:=fun i hi=>by
  have h1:=MS.v_le hQ hI hi
  have h2:=MS.tot_le hQ
  omega
 have h134:=d171_eq (s:=selI (fun i=>decide (s.st i=0)) Q.P.n) (f:=fun a=>d217 a (lst (fun i=>((s.v Q i:Nat):Int)) Q.P.n) ((s.quo Q:Nat):Int)) (g:=fun x=>decide (s.v Q x.toNat<s.quo Q)) (fun x hx=>by
  obtain⟨i,rfl,hi,_⟩:=zap.1 hx
  unfold d217
  simp only[d0le,zaf,dlt hi,xad,cond_true,tn,zan (fun i=>((s.v Q i:Nat):Int)) hi,Int.toNat_natCast]
  congr 1
  exact xca.2 (by omega)) (by rw[zao];have:=zaw (fun i=>decide (s.st i=0)) Q.P.n;omega)
 have hre:(selI (fun i=>decide (s.st i=0)) Q.P.n).filter (fun c=>!decide (s.v Q c.toNat<s.quo Q))=selI (s.reach Q) Q.P.n:=by
  rw[zff]
  refine zgd fun i _=>?_
  unfold MS.reach
  congr 1
  rw[Int.toNat_natCast]
  by_cases h:s.v Q i<s.quo Q
  ·rw[decide_eq_true h,decide_eq_false (by omega)];rfl
  ·rw[decide_eq_false h,decide_eq_true (by omega)];rfl
 rw[hre]at h134
 have hrl:(selI (s.reach Q) Q.P.n).length≤7:=by rw[zao];have:=zaw (s.reach Q) Q.P.n;omega
 have hin:∀a∈selI (s.reach Q) Q.P.n,∃i:Nat,a=(i:Int)∧i<Q.P.n:=fun a ha=>by
  obtain⟨i,h,hi,_⟩:=zap.1 ha
  exact⟨i,h,hi⟩
 obtain⟨L,h1,h2,h3⟩:=d218_ex (l:=selI (s.reach Q) Q.P.n) (cmp:=fun a_1 a_2=>d219 a_1 a_2 (lst (fun i=>((s.v Q i:Nat):Int)) Q.P.n) k) (g:=cmpM (s.v Q) Q.P.lots) (by omega) (zcw _ _) (fun a ha b hb=>by
  obtain⟨i,rfl,hi⟩:=hin a ha
  obtain⟨j,rfl,hj⟩:=hin b hb
  exact d219_eq hlo (zon hQ.P) hv hi hj) (fun a ha b hb hne=>by
  obtain⟨i,rfl,hi⟩:=hin a ha
  obtain⟨j,rfl,hj⟩:=hin b hb
  rw[zma,zma]
  exact zmt ((zon hQ.P).mem hi) fun e=>hne (by rw[e])) (fun a ha b hb d hd=>by
  obtain⟨i,rfl,hi⟩:=hin a ha
  obtain⟨j,rfl,hj⟩:=hin b hb
  obtain⟨m,rfl,hm⟩:=hin d hd
  rw[zma,zma,zma]
  exact zms)
 have hLin:∀a∈L,∃i:Nat,a=(i:Int)∧i<Q.P.n:=fun a ha=>hin a (h2.mem_iff.1 ha)
 have hs:L.Pairwise fun a b=>zpr (s.v Q) Q.P.lots a b=true:=h3.imp_of_mem fun{a b} ha hb hab=>by
  obtain⟨i,rfl,hi⟩:=hLin a ha
  obtain⟨j,rfl,hj⟩:=hLin b hb
  exact(zma _ _ _ _).1 hab
 have hLl:L.length≤7:=by rw[h2.length_eq];exact hrl
 have hmap:((L.take (Q.P.seats-s.fl Q)).map Int.toNat).map Int.ofNat=L.take (Q.P.seats-s.fl Q):=by
  rw[List.map_map]
  refine(xey fun a ha=>?_).trans (List.map_id _)
  obtain⟨i,rfl,_⟩:=hLin a (xbv ha)
  rfl
 refine⟨(L.take (Q.P.seats-s.fl Q)).map Int.toNat,?_,by rw[hmap];exact el_perm hQ h2 hs⟩
 rw[hmap]
 unfold d156
 rw[show d157 k 0=_ from zly hst (by omega) 0,Option.bind_some,h134,Option.bind_some,h1,Option.bind_some,hse,hfl,wsubN (by omega) (by omega)]
 by_cases hc:((Q.P.seats-s.fl Q:Nat):Int)<(L.length:Int)
 ·rw[decide_eq_true hc,cond_true]
  have hcut:zck 0 ((Q.P.seats-s.fl Q:Nat):Int) L.length=true:=by
   unfold zck
   simp only[xaf,xag]
   omega
  rw[hcut,cond_true,tn]
 ·rw[decide_eq_false hc,xac]
  have hcut:zck 0 (L.length:Int) L.length=true:=by
   unfold zck
   simp only[xaf,xag]
   omega
  rw[hcut,cond_true,tn,xay,xav (by omega)]
theorem d220_eq{d:Nat}(h1:1≤d)(h6:d≤6):d220 (d:Int)=some ((10^(d/2):Nat):Int):=by
 have e:w (Int.tdiv (d:Int) 2)=((d/2:Nat):Int):=by
  have:Int.tdiv (d:Int) 2=((d/2:Nat):Int):=by
   rw[xej (by omega)];rfl
  rw[this,zbj (by omega) (by omega)]
 unfold d220
 simp only[zal,decide_eq_false (show ¬(d:Int)<1 by omega),decide_eq_false (show ¬(6:Int)<(d:Int) by omega),xak,cond_true,xac,e,d87_eq (show d/2≤18 by omega),Option.bind_some]
inductive Bef(rs:List Rd)(b:Option Nat)(sur:Nat):Prop
 |start:rs=[]→b=none→Bef rs b sur
 |kept (rs':List Rd) (r:Rd):rs=rs'++[r]→r.ex=[]→b=some sur→Bef rs b sur
 |excl (rs':List Rd) (r:Rd):rs=rs'++[r]→r.ex≠ []→b=none→Bef rs b sur
theorem d158_eq{k:MT}{rs:List Rd}{d sur:Nat}(h1:1≤d)(h6:d≤6)(hk:k.1.2.2.2.2.2.1=(d:Int))(hrs:k.2.2.2.2.2.2.2.2.2.2.2.2.2.2.1=rs.map rdT)(hl:rs.length≤1000)(hsi:s.since≤rs.length)(hev:k.2.2.2.2.2.2.2.2.1=(rs.length:Int)-(s.since:Int))(hsu:k.2.2.2.2.2.2.2.2.2.1=(sur:Int))(hb:Bef rs s.bef sur)(hom:Q.om=10^(d/2)) :
  d158 k ((s.sur Q:Nat):Int) ((rs.length+1:Nat):Int)=some (s.stall Q):=by
 unfold d158 MS.stall
 have hw1:w (((rs.length+1:Nat):Int)-((rs.length:Int)-(s.since:Int)))=((s.since+1:Nat):Int):=by rw[zbj (by omega) (by omega)];omega
 simp only[zal,hk,d220_eq h1 h6,Option.bind_some,hev,hw1,hrs,xau,hsu,←hom]
 by_cases c1:s.sur Q<Q.om
 ·rw[decide_eq_true (show((s.sur Q:Nat):Int)<((Q.om:Nat):Int) by omega),decide_eq_true c1];rfl
 rw[decide_eq_false (show ¬((s.sur Q:Nat):Int)<((Q.om:Nat):Int) by omega),decide_eq_false c1,xak,cond_true,xbg]
 by_cases c2:60≤s.since+1
 ·rw[decide_eq_true (show(60:Int)≤((s.since+1:Nat):Int) by omega),decide_eq_true c2];rfl
 rw[decide_eq_false (show ¬(60:Int)≤((s.since+1:Nat):Int) by omega),decide_eq_false c2,xac,xbg]
 have hget:∀(rs':List Rd) (r:Rd) (d0:RD),rs=rs'++[r]→(rs.map rdT).getD rs'.length d0=rdT r:=fun rs' r d0 e=>by
  rw[e,xcd,xab,xcg (by simp),xau,Nat.sub_self];rfl
 cases hb with
 |start e1 e2=>
  rw[e2,e1]
  have:w (((([]:List Rd).length:Nat):Int)-1)=-1:=by
   show w (-1)=-1
   exact zbj (by omega) (by omega)
  rw[this];rfl
 |kept rs' r e1 e2 e3=>
  have hlen:rs.length=rs'.length+1:=by rw[e1];simp
  rw[e3,hlen,zrl (by omega)]
  have hx:(rdT r).2.2.2.2.2.2.1=[]:=e2
  rw[d0le,cond_true,tn,dlt (show rs'.length<rs'.length+1 by omega),xad,cond_true,hget rs' r _ e1,hx]
  show some (decide ((sur:Int)≤((s.sur Q:Nat):Int)))=some (decide (sur≤s.sur Q))
  congr 1
  exact xca.2 (by omega)
 |excl rs' r e1 e2 e3=>
  have hlen:rs.length=rs'.length+1:=by rw[e1];simp
  rw[e3,hlen,zrl (by omega)]
  have hx:(rdT r).2.2.2.2.2.2.1=r.ex:=rfl
  have hpos:=xce.2 e2
  rw[d0le,cond_true,tn,dlt (show rs'.length<rs'.length+1 by omega),xad,cond_true,hget rs' r _ e1,hx,decide_eq_false (show ¬((r.ex.length:Nat):Int)=0 by omega)]
  rfl
end Go.Proofs.YtamgmpngdmnadaaGreat
namespace Go.Proofs.YtamgmpngdmnadaaGreat
open Go Go.X
variable {Q:MP} {s:MS}
theorem getD_in{l:List Int}{P:Int→Prop}(h:∀x∈l,P x){j:Nat}(hj:j<l.length):P (l.getD j 0):=h _ (zca hj)
set_option maxHeartbeats 1000000 in
theorem d159_eq(hQ:Q.OK)(hI:MI Q s){c:CT}(hc:c.2.2.2.2.2.2.1=Q.P.ties){gs:List Grp}{one filled:Int}{E:List (List Rat)}{rest:Int×(Int×(Int×(Int×(Int×(Int×(List RD×List Int))))))}(hE:∀r∈E,RndOK Q.P.n r)(hEl:E.length≤1000)(v kk:List Rt)(qu ex su:Rt)(el ex2 ti:List Int) :
  ∃x:Nat,x<Q.P.n∧s.pick Q E=(x:Int)∧d159 (c,gs,Q.P.lots,one,lst (fun i=>(s.st i:Int)) Q.P.n,lst (fun i=>(s.kp i:Int)) Q.P.n,filled,E.map (List.map rr),rest) (v,kk,qu,ex,su,el,ex2,ti) (lst (fun i=>((s.v Q i:Nat):Int)) Q.P.n) ((s.sur Q:Nat):Int)
   =some ((c,gs,Q.P.lots,one,lst (fun i=>((upd s.st x 2 i:Nat):Int)) Q.P.n,lst (fun i=>((upd s.kp x 0 i:Nat):Int)) Q.P.n,filled,E.map (List.map rr),rest),(v,kk,qu,ex,su,el,[(x:Int)],if(s.tied Q).length=1 then ti else s.tied Q)):=by
 obtain⟨x,x1,x2,x3⟩:=zmy hI E
 refine⟨x,x2,x1,?_⟩
 have hn7:=hQ.P.n7
 have htl:=MS.tot_le hQ
 have hv:∀i,i<Q.P.n→s.v Q i≤100000000000:=fun i hi=>by
  have h1:=MS.v_le hQ hI hi
  omega
 have hsur:s.sur Q≤100000000000:=by
  have h1:=MS.sum_le hQ hI
  have h2:s.sur Q≤sumN (s.v Q) Q.P.n:=zdk fun i _=>by split<;>omega
  omega
 have hLn:∀y∈selI (fun i=>decide (s.st i=0)) Q.P.n,∃i:Nat,y=(i:Int)∧i<Q.P.n:=fun y hy=>by
  obtain⟨i,h,hi,_⟩:=zap.1 hy
  exact⟨i,h,hi⟩
 have hne:selI (fun i=>decide (s.st i=0)) Q.P.n≠ []:=xdu (zap.2 ⟨x,rfl,x2,decide_eq_true x3⟩)
 have hLl:(selI (fun i=>decide (s.st i=0)) Q.P.n).length≤7:=by
  rw[zao];have:=zaw (fun i=>decide (s.st i=0)) Q.P.n;omega
 have hmem:∀i,i<Q.P.n→(s.st i=0↔(i:Int)∈selI (fun i=>decide (s.st i=0)) Q.P.n):=fun i hi=>by
  rw[zap]
  constructor
  ·intro h;exact⟨i,rfl,hi,decide_eq_true h⟩
  ·rintro⟨k,e,_,h⟩
   rw[xec.1 e]
   exact of_decide_eq_true h
 have hnear:∀m:Nat,(∃y,y<Q.P.n∧s.st y=0∧m=s.v Q y)→(∀k,k<Q.P.n→s.st k=0→m≤s.v Q k)→(selI (fun i=>decide (s.st i=0)) Q.P.n).filter (fun c=>!decide (m+s.sur Q<s.v Q c.toNat))=s.tied Q:=fun m ⟨y,y1,y2,y3⟩ hm=>by
  rw[zff]
  refine zgd fun i hi=>?_
  unfold MS.near
  congr 1
  rw[Int.toNat_natCast,xgd,xbi,xho,xaw]
  constructor
  ·intro h k hk
   by_cases h5:s.st k=0
   ·have:=hm k (List.mem_range.1 hk) h5
    rw[xcy,xag]
    exact .inr (by omega)
   ·simp[h5]
  ·intro h
   have:=h y (List.mem_range.2 y1)
   rw[decide_eq_true y2,xam,xbg,xag]at this
   omega
 have h134:∀m:Nat,m≤100000000000→d171 (selI (fun i=>decide (s.st i=0)) Q.P.n) (fun a=>d221 a (lst (fun i=>((s.v Q i:Nat):Int)) Q.P.n) (m:Int) ((s.sur Q:Nat):Int))=some ((selI (fun i=>decide (s.st i=0)) Q.P.n).filter fun c=>!decide (m+s.sur Q<s.v Q c.toNat)):=fun m hm=>d171_eq (g:=fun c=>decide (m+s.sur Q<s.v Q c.toNat)) (fun y hy=>by
  obtain⟨i,rfl,hi⟩:=hLn y hy
  unfold d221
  simp only[d0le,zaf,dlt hi,xad,cond_true,tn,zan (fun i=>((s.v Q i:Nat):Int)) hi,Int.toNat_natCast,wadd (show m+s.sur Q≤9223372036854775807 by omega)]
  congr 1
  exact xca.2 (by omega)) (by omega)
 unfold d159
 rw[show d157 (c,gs,Q.P.lots,one,lst (fun i=>(s.st i:Int)) Q.P.n,lst (fun i=>(s.kp i:Int)) Q.P.n,filled,E.map (List.map rr),rest) 0=_ from zly (st:=s.st) (n:=Q.P.n) rfl (by omega) 0,Option.bind_some]
 simp only[show∀i,decide (s.st i=0)=decide (s.st i=0)from fun _=>rfl]
 generalize hLL:selI (fun i=>decide (s.st i=0)) Q.P.n=L at *
 have hpos:=xce.2 hne
 obtain⟨y0,hy0,hy0n⟩:=getD_in hLn hpos
 have hy0m:(y0:Int)∈L:=by rw[←hy0];exact zca hpos
 simp only[decide_eq_true (show(0:Int)<(L.length:Int) by omega),show decide ((0:Nat)≤0)=true from rfl,xad,cond_true,hy0,d0le,zaf,dlt hy0n,tn,zan (fun i=>((s.v Q i:Nat):Int)) hy0n]
 refine zbv (Q:=fun z=>z=_) (fun(i:Nat) (st:MT×RD×(List Int)×Int×(List Int)×Int×Int×Int)=>∃m:Nat,st=((c,gs,Q.P.lots,one,lst (fun i=>(s.st i:Int)) Q.P.n,lst (fun i=>(s.kp i:Int)) Q.P.n,filled,E.map (List.map rr),rest),(v,kk,qu,ex,su,el,ex2,ti),lst (fun i=>((s.v Q i:Nat):Int)) Q.P.n,((s.sur Q:Nat):Int),L,(m:Int),(L.length:Int),(i:Int))∧(∃y,y<Q.P.n∧s.st y=0∧m=s.v Q y)∧∀j,j<i→∀y:Nat,L.getD j 0=(y:Int)→m≤s.v Q y) L.length ⟨s.v Q y0,rfl,⟨y0,hy0n,(hmem y0 hy0n).2 hy0m,rfl⟩,fun j hj=>by omega⟩ ?_ ?_
 ·rintro i st hi ⟨m,rfl,⟨y,y1,y2,y3⟩,hm⟩
  obtain⟨z,hz,hzn⟩:=getD_in hLn hi
  have hzm:(z:Int)∈L:=by rw[←hz];exact zca hi
  refine⟨_,by simp only[dlt hi,d0le,xad,cond_true,tn,hz,zaf,dlt hzn,zan (fun i=>((s.v Q i:Nat):Int)) hzn,zav (show i<9223372036854775807 by omega)];rfl,?_⟩
  by_cases hlt:s.v Q z<m
  ·refine⟨s.v Q z,by rw[dlt hlt];rfl,⟨z,hzn,(hmem z hzn).2 hzm,rfl⟩,fun j hj y' hy'=>?_⟩
   by_cases hji:j=i
   ·subst hji
    rw[hz]at hy'
    rw[xec.1 hy']
    exact Nat.le_refl _
   ·have:=hm j (by omega) y' hy'
    omega
  ·refine⟨m,by rw[nlt (by omega)];rfl,⟨y,y1,y2,y3⟩,fun j hj y' hy'=>?_⟩
   by_cases hji:j=i
   ·subst hji
    rw[hz]at hy'
    rw[←xec.1 hy']
    omega
   ·exact hm j (by omega) y' hy'
 ·rintro st ⟨m,rfl,hy,hm⟩
  refine⟨((c,gs,Q.P.lots,one,lst (fun i=>(s.st i:Int)) Q.P.n,lst (fun i=>(s.kp i:Int)) Q.P.n,filled,E.map (List.map rr),rest),(v,kk,qu,ex,su,el,ex2,ti),lst (fun i=>((s.v Q i:Nat):Int)) Q.P.n,((s.sur Q:Nat):Int),L,(m:Int)),by simp only[nlt (Nat.le_refl L.length),xac],?_⟩
  have hm2:∀k,k<Q.P.n→s.st k=0→m≤s.v Q k:=fun k hk h0=>by
   obtain⟨j,hj,e⟩:=xci ((hmem k hk).1 h0)
   exact hm j hj k (by rw[xab,xae hj,e];rfl)
  have hmb:m≤100000000000:=by
   obtain⟨y,y1,_,y3⟩:=hy
   rw[y3];exact hv y y1
  have ht:=hnear m hy hm2
  have h134:=h134 m hmb
  rw[ht]at h134
  have htne:s.tied Q≠ []:=near_ne hI
  have htin:∀y∈s.tied Q,∃i:Nat,y=(i:Int)∧i<Q.P.n:=fun y hy=>by
   obtain⟨i,h,hi,_⟩:=zap.1 hy
   exact⟨i,h,hi⟩
  have htl7:(s.tied Q).length≤7:=by
   unfold MS.tied
   rw[zao];have:=zaw (s.near Q) Q.P.n;omega
  have hset1:(lst (fun i=>(s.st i:Int)) Q.P.n).set x 2=lst (fun i=>((upd s.st x 2 i:Nat):Int)) Q.P.n:=by
   rw[zdl]
   refine zax fun k _=>?_
   unfold upd
   split<;>rfl
  have hset2:(lst (fun i=>(s.kp i:Int)) Q.P.n).set x 0=lst (fun i=>((upd s.kp x 0 i:Nat):Int)) Q.P.n:=by
   rw[zdl]
   refine zax fun k _=>?_
   unfold upd
   split<;>rfl
  obtain⟨b,hb155⟩:=d150_eq (n:=Q.P.n) (ties:=Q.P.ties) (E:=E) (tied:=s.tied Q) (lots:=Q.P.lots) (least:=true) hQ.P.ties1 hQ.P.ties3 (zon hQ.P) hE (by omega) htne (zco _ _) htin (by omega)
  simp only[h134,Option.bind_some]
  unfold MS.pick at x1
  generalize s.tied Q=T at htne htl7 x1 hb155 ⊢
  obtain⟨z,T',hT'⟩:=xhb htne
  subst hT'
  simp only[xat,decide_eq_true (show(0:Int)<((T'.length+1:Nat):Int) by omega),show decide ((0:Nat)≤0)=true from rfl,xad,cond_true,zal,hc,hb155,Option.bind_some,xef]
  rw[xat]at x1
  by_cases hone:T'.length+1=1
  ·rw[if_pos hone,xgc]at x1
   simp only[if_pos hone,decide_eq_false (show ¬(1:Int)<((T'.length+1:Nat):Int) by omega),xac,x1,d0le,zaf,dlt x2,xad,cond_true,tn,hset1,hset2]
  ·rw[if_neg hone]at x1
   simp only[if_neg hone,decide_eq_true (show(1:Int)<((T'.length+1:Nat):Int) by omega),cond_true,x1,d0le,zaf,dlt x2,xad,tn,hset1,hset2]
theorem d160_eq(hQ:Q.OK)(hI:MI Q s){c:CT}{gs:List Grp}{lots:List Int}{filled:Int}{rest:List (List Rt)×(Int×(Int×(Int×(Int×(Int×(Int×(List RD×List Int)))))))} :
  d160 (c,gs,lots,(Q.one:Int),lst (fun i=>((s.st1 Q i:Nat):Int)) Q.P.n,lst (fun i=>(s.kp i:Int)) Q.P.n,filled,rest) (lst (fun i=>((s.v Q i:Nat):Int)) Q.P.n) ((s.quo Q:Nat):Int)
   =some (c,gs,lots,(Q.one:Int),lst (fun i=>((s.st1 Q i:Nat):Int)) Q.P.n,lst (fun i=>((s.kp1 Q i:Nat):Int)) Q.P.n,filled,rest):=by
 have hn7:=hQ.P.n7
 have htl:=MS.tot_le hQ
 have ho1:=hQ.one1
 have ho6:=hQ.one6
 have hv:∀i,i<Q.P.n→s.v Q i≤100000000000:=fun i hi=>by
  have h1:=MS.v_le hQ hI hi
  omega
 have hq:s.quo Q≤100000000001:=by
  have:=MS.quo_le hQ hI
  omega
 unfold d160
 rw[show d157 (c,gs,lots,(Q.one:Int),lst (fun i=>((s.st1 Q i:Nat):Int)) Q.P.n,lst (fun i=>(s.kp i:Int)) Q.P.n,filled,rest) 1=_ from zly (st:=s.st1 Q) (n:=Q.P.n) rfl (by omega) 1,Option.bind_some]
 obtain⟨L,hL⟩:∃L,selN (fun i=>decide (s.st1 Q i=1)) Q.P.n=L:=⟨_,rfl⟩
 have hLi:selI (fun i=>decide (s.st1 Q i=1)) Q.P.n=L.map Int.ofNat:=by rw[←hL];rfl
 have hLn:∀i∈L,i<Q.P.n:=fun i hi=>(zbz.1 (by rw[hL];exact hi)).1
 have hLl:L.length≤7:=by rw[←hL,zby];have:=zaw (fun i=>decide (s.st1 Q i=1)) Q.P.n;omega
 have hLd:L.Nodup:=by
  rw[←hL];unfold selN
  exact List.nodup_range.filter _
 have hmem:∀i,i<Q.P.n→(s.st1 Q i=1↔i∈L):=fun i hi=>by
  rw[←hL,zbz,xag]
  exact⟨fun h=>⟨hi,h⟩,fun h=>h.2⟩
 obtain⟨nw,hnw⟩:∃nw:Nat→Nat,(fun i=>min Q.one (mup (mup (s.kp i*s.quo Q) Q.one*Q.one) (s.v Q i)))=nw:=⟨_,rfl⟩
 have hnwi:∀i,min Q.one (mup (mup (s.kp i*s.quo Q) Q.one*Q.one) (s.v Q i))=nw i:=fun i=>by rw[←hnw]
 rw[hLi]
 have hLm:(L.map Int.ofNat).length=L.length:=xau ..
 simp only[show(L.map Int.ofNat).length=L.length from hLm]
 refine zac (fun j=>((c,gs,lots,(Q.one:Int),lst (fun i=>((s.st1 Q i:Nat):Int)) Q.P.n,lst (fun i=>((if i∈L.take j∧0<s.v Q i then nw i else s.kp i:Nat):Int)) Q.P.n,filled,rest),lst (fun i=>((s.v Q i:Nat):Int)) Q.P.n,((s.quo Q:Nat):Int),L.map Int.ofNat,(L.length:Int),(j:Int))) L.length ?_ (fun j hj=>?_) (b:=(c,gs,lots,(Q.one:Int),lst (fun i=>((s.st1 Q i:Nat):Int)) Q.P.n,lst (fun i=>((s.kp1 Q i:Nat):Int)) Q.P.n,filled,rest)) ?_ rfl
 ·simp only[xcz,List.not_mem_nil,false_and,if_false]
  rfl
 ·obtain⟨x,hx⟩:∃x,L.getD j 0=x:=⟨_,rfl⟩
  have hxm:x∈L:=by
   rw[←hx,xab,xae hj]
   exact xbe hj
  have hxn:=hLn x hxm
  have hsg:(L.map Int.ofNat).getD j 0=(x:Int):=by
   rw[xab,xbr,xae hj,←hx,xab,xae hj];rfl
  have htk:L.take (j+1)=L.take j++[x]:=by rw[zbc L 0 hj,hx]
  have hxt:x∉L.take j:=fun h=>by
   have h2:(L.take (j+1)).Nodup:=hLd.sublist (xhk _ _)
   rw[htk]at h2
   exact(xew.1 h2).2.2 x h x (by simp) rfl
  have hkx:¬(x∈L.take j∧0<s.v Q x):=fun h=>hxt h.1
  have hvx:=hv x hxn
  have hk1:=hI.kp1 x
  have b1:s.kp x*s.quo Q≤1000000*100000000001:=Nat.mul_le_mul (by omega) hq
  have b2:mup (s.kp x*s.quo Q) Q.one≤s.quo Q:=mup_le ho1 (by rw[xbk];exact xcp _ hk1)
  have b3:mup (s.kp x*s.quo Q) Q.one*Q.one≤100000000001*1000000:=Nat.mul_le_mul (by omega) ho6
  simp only[dlt hj,d0le,hLm,xad,cond_true,tn,hsg,zaf,dlt hxn,zan (fun i=>((s.v Q i:Nat):Int)) hxn,zal,zav (show j<9223372036854775807 by omega),htk]
  by_cases h0:0<s.v Q x
  ·simp only[decide_eq_true (show(0:Int)<((s.v Q x:Nat):Int) by omega),cond_true,zan (fun i=>((if i∈L.take j∧0<s.v Q i then nw i else s.kp i:Nat):Int)) hxn,if_neg hkx,wmul (show s.kp x*s.quo Q≤9223372036854775807 by omega),d216_eq ho1 (show s.kp x*s.quo Q+Q.one≤4611686018427387904 by omega),Option.bind_some,wmul (show mup (s.kp x*s.quo Q) Q.one*Q.one≤9223372036854775807 by omega),d216_eq h0 (show mup (s.kp x*s.quo Q) Q.one*Q.one+s.v Q x≤4611686018427387904 by omega)]
   have hmin:(bif decide (((mup (mup (s.kp x*s.quo Q) Q.one*Q.one) (s.v Q x):Nat):Int)<(Q.one:Int))then((mup (mup (s.kp x*s.quo Q) Q.one*Q.one) (s.v Q x):Nat):Int)else(Q.one:Int))=((nw x:Nat):Int):=by
    rw[←hnwi]
    generalize mup (mup (s.kp x*s.quo Q) Q.one*Q.one) (s.v Q x)=y
    by_cases h:y<Q.one
    ·rw[dlt h,cond_true];omega
    ·rw[nlt (by omega),xac];omega
   have e:lst (upd (fun i=>((if i∈L.take j∧0<s.v Q i then nw i else s.kp i:Nat):Int)) x ((nw x:Nat):Int)) Q.P.n=lst (fun i=>((if i∈L.take j++[x]∧0<s.v Q i then nw i else s.kp i:Nat):Int)) Q.P.n:=zax fun i hi=>by
    unfold upd
    by_cases hix:i=x
    ·subst hix
     rw[if_pos rfl,if_pos ⟨by simp,h0⟩]
    ·rw[if_neg hix]
     have:(i∈L.take j++[x])↔i∈L.take j:=by simp[hix]
     simp only[this]
   rw[hmin,zdl,e]
  ·simp only[decide_eq_false (show ¬(0:Int)<((s.v Q x:Nat):Int) by omega),xac]
   have e:lst (fun i=>((if i∈L.take j∧0<s.v Q i then nw i else s.kp i:Nat):Int)) Q.P.n=lst (fun i=>((if i∈L.take j++[x]∧0<s.v Q i then nw i else s.kp i:Nat):Int)) Q.P.n:=zax fun i hi=>by
    by_cases hix:i=x
    ·subst hix
     rw[if_neg hkx,if_neg fun h=>h0 h.2]
    ·have:(i∈L.take j++[x])↔i∈L.take j:=by simp[hix]
     simp only[this]
   rw[e]
 ·simp only[nlt (Nat.le_refl L.length),xac,xay]
  have e:lst (fun i=>((if i∈L∧0<s.v Q i then nw i else s.kp i:Nat):Int)) Q.P.n=lst (fun i=>((s.kp1 Q i:Nat):Int)) Q.P.n:=zax fun i hi=>by
   unfold MS.kp1
   rw[hnwi]
   by_cases h:s.st1 Q i=1
   ·have:=(hmem i hi).1 h
    simp only[h,this,true_and]
   ·have:¬i∈L:=fun hm=>h ((hmem i hi).2 hm)
    simp only[h,this,false_and]
  rw[e]
end Go.Proofs.YtamgmpngdmnadaaGreat
namespace Go.Proofs.YtamgmpngdmnadaaGreat
open Go Go.X
def pl(P:GP)(st:Nat→Nat):GS:={D:=1,num:=fun _=>1,at_:=fun g=>nxt (P.p g) st 0,st:=st,keep:=fun _=>1}
def iv(P:GP)(st:Nat→Nat)(c:Nat):Nat:=(pl P st).lie P c
def ivsum(P:GP)(st:Nat→Nat):Nat:=sumN (iv P st) P.n
def iquo(P:GP)(st:Nat→Nat):Nat:=ivsum P st/2+1
def zeo(P:GP)(st:Nat→Nat):List Nat:=selN (fun i=>decide (st i=0)) P.n
def iwin(P:GP)(st:Nat→Nat):Option Nat:=if(zeo P st).length=1 then(zeo P st).head? else(zeo P st).find? fun i=>decide (iquo P st≤iv P st i)
def zfq(P:GP)(st:Nat→Nat):List Int:=selI (znr P (iv P st) st 0 false) P.n
def ipick(P:GP)(E:List (List Rat))(st:Nat→Nat):Int:=if(zfq P st).length=1 then(zfq P st).headD 0 else tieB P.ties E (zfq P st) P.lots true
def iexh(P:GP)(st:Nat→Nat):Nat:=sumN (fun g=>if nxt (P.p g) st 0<(P.p g).length then 0 else P.k g) P.G
def ird0(P:GP)(st:Nat→Nat):Rd:=
 {votes:=lst (fun i=>(iv P st i:Rat)) P.n
  keep:=lst (fun i=>if st i=0 then 1 else 0) P.n
  quota:=(iquo P st:Rat)
  exh:=(iexh P st:Rat)
  sur:=0
  el:=[]
  ex:=[]
  ti:=[]}
def irdW(P:GP)(st:Nat→Nat)(x:Nat):Rd:={ird0 P st with el:=[(x:Int)]}
def irdX(P:GP)(E:List (List Rat))(st:Nat→Nat):Rd:={ird0 P st with ex:=[ipick P E st],ti:=if(zfq P st).length=1 then []else zfq P st}
def irun(P:GP):Nat→List Rd→(Nat→Nat)→List Rd
 | 0,rs,_=>rs
 |k+1,rs,st=>match iwin P st with
  |some x=>rs++[irdW P st x]
  |none=>irun P k (rs++[irdX P (rs.map Rd.votes) st]) (upd st (ipick P (rs.map Rd.votes) st).toNat 3)
def zig(P:GP):List Rd:=irun P P.n [] fun _=>0
variable {P:GP} {s:GS}
theorem zif(hP:P.OK)(st:Nat→Nat):ivsum P st≤P.mkd:=by
 refine Nat.le_trans (zlo (s:=pl P st) hP) (zdk fun g _=>?_)
 show(if P.p g=[]then 0 else P.k g*1)≤_
 rw[xda]
 exact Nat.le_refl _
theorem left_upd{st:Nat→Nat}{x:Nat}(hx:x<P.n)(h:st x=0):(zeo P st).length=(zeo P (upd st x 3)).length+1:=by
 unfold zeo
 rw[zby,zby]
 refine zlz hx (fun i hi hne=>by rw[zee _ _ hne]) (by rw[zbw];rfl) (decide_eq_true h)
end Go.Proofs.YtamgmpngdmnadaaGreat
namespace Go.Proofs.YtamgmpngdmnadaaGreat
open Go Go.X
abbrev IT:=CT×(List Grp×(List Int×(List Bool×List (List Rt))))
theorem fit_any{m:Int}{c:CT}{gs:List Grp}{lots:List Int}(h:fitE m c gs lots=0):fitE 3 (c.1,c.2.1,3,c.2.2.2.1,c.2.2.2.2.1,0,c.2.2.2.2.2.2) gs lots=0:=by
 obtain⟨_,_,_,n1,n7,s1,s5,_,_,_,t1,t3,hp,ll,hB⟩:=zii h
 exact zoy (n:=c.2.1.length) ⟨rfl,rfl,s1,s5,fun h=>absurd h (by omega),fun h=>absurd h (by omega),fun _=>rfl,t1,t3⟩ (by omega) (by omega) n1 n7 hp ll hB
theorem znf{m:Int}{c:CT}{gs:List Grp}{lots:List Int}(h:fitE m c gs lots=0):(gpOf c gs lots).OK∧(gpOf c gs lots).G≤1000000:=by
 have:=gpOf_ok (fit_any h)
 exact⟨this.1,this.2.1⟩
theorem zop{α:Type}{l:Nat}(h:l+1≤4294967296):decide ((l:Int)+((([]:List α).length+1:Nat):Int)≤LIM)=true:=zbn (l:=List.replicate l ()) (d:=()) (by simpa using h) |> fun h=>by simpa using h
theorem lim_inc{l:Nat}(h:l+1≤4294967296):decide ((l:Int)+1≤LIM)=true:=zbn (l:=List.replicate l ()) (d:=()) (by simpa using h) |> fun h=>by simpa using h
theorem d80_eq{c:CT}(gs:List Grp)(lots:List Int)(hn:c.2.1.length≤1000):d80 c gs lots=some (c,gs,lots,lst (fun _=>true) c.2.1.length,[]):=by
 unfold d80
 generalize hm:c.2.1.length=n at hn
 simp only[xaq,d0le,zbq (n:=n) (by omega),xad,cond_true,tn,List.length_replicate]
 refine zac (fun i=>(gs,lots,c,lst (fun k=>decide (k<i)) n,(n:Int),(i:Int))) n ?_ (fun i hi=>?_) (b:=(gs,lots,c,lst (fun _=>true) n)) ?_ rfl
 ·have:lst (fun k=>decide (k<0)) n=List.replicate n false:=by
   rw[zol]
   exact zax fun k _=>decide_eq_false (by omega)
  rw[this];rfl
 ·have e:(lst (fun k=>decide (k<i)) n).set i true=lst (fun k=>decide (k<i+1)) n:=by
   rw[zdl]
   refine zax fun k _=>?_
   unfold upd
   by_cases h:k=i
   ·rw[if_pos h];exact(decide_eq_true (by omega)).symm
   ·rw[if_neg h];exact xca.2 (by omega)
  simp only[dlt hi,d0le,zaf,xad,cond_true,tn,e,zav (show i<9223372036854775807 by omega)]
 ·have e:lst (fun k=>decide (k<n)) n=lst (fun _=>true) n:=zax fun k hk=>decide_eq_true hk
  simp only[nlt (Nat.le_refl n),xac,e]
theorem d83_eq{k:IT}{st:Nat→Nat}{n:Nat}(hk:k.2.2.2.1=lst (fun i=>decide (st i=0)) n)(hn:n≤1000):d83 k=some (selI (fun i=>decide (st i=0)) n):=by
 unfold d83
 rw[hk,zaf]
 refine zac (fun i=>(selI (fun i=>decide (st i=0)) i,lst (fun i=>decide (st i=0)) n,(n:Int),(i:Int))) n rfl (fun i hi=>?_) ?_ rfl
 ·have hl:(selI (fun i=>decide (st i=0)) i).length+1≤4294967296:=by
   rw[zao];have:=zaw (fun i=>decide (st i=0)) i;omega
  rw[zdg]
  simp only[dlt hi,d0le,zaf,xad,cond_true,tn,zan _ hi,zal,zav (show i<9223372036854775807 by omega)]
  by_cases h:st i=0
  ·rw[decide_eq_true h,cond_true,zbn hl,cond_true];rfl
  ·rw[decide_eq_false h,xac];simp
 ·simp only[nlt (Nat.le_refl n),xac]
theorem d149_eq{v:Nat→Nat}{n:Nat}(hn:n≤1000)(hv:∀i,i<n→v i≤9223372036854775807):d149 (lst (fun i=>(v i:Int)) n)=some (lst (fun i=>rr (v i:Rat)) n):=by
 unfold d149
 rw[zaf]
 refine zac (fun i=>(lst (fun i=>rr (v i:Rat)) i,lst (fun i=>(v i:Int)) n,(n:Int),(i:Int))) n rfl (fun i hi=>?_) ?_ rfl
 ·have hl:=zbn (l:=lst (fun i=>rr (v i:Rat)) i) (d:=rr (v i:Rat)) (by rw[zaf];omega)
  simp only[dlt hi,d0le,zaf,xad,cond_true,tn,zan (fun i=>(v i:Int)) hi,zgb (hv i hi),Option.bind_some,zav (show i<9223372036854775807 by omega)]
  rw[zaf]at hl
  rw[hl,cond_true,zet]
 ·simp only[nlt (Nat.le_refl n),xac]
theorem d82_eq{k:IT}{st v:Nat→Nat}{n e:Nat}(hk:k.2.2.2.1=lst (fun i=>decide (st i=0)) n)(hn:n≤1000)(hs:sumN v n≤4611686018427387904)(he:e≤9223372036854775807) :
  d82 k (lst (fun i=>(v i:Int)) n) (e:Int)=some ((lst (fun i=>rr (v i:Rat)) n,lst (fun i=>rr (if st i=0 then 1 else 0)) n,rr ((sumN v n/2+1:Nat):Rat),rr (e:Rat),rr 0,[],[],[]),((sumN v n/2+1:Nat):Int)):=by
 have hv:∀i,i<n→v i≤4611686018427387904:=fun i hi=>Nat.le_trans (zfe hi) hs
 have hpart:∀i,i≤n→sumN v i≤sumN v n:=by
  intro i
  induction n with
  |zero=>intro h;rw[show i=0 by omega];exact Nat.le_refl _
  |succ n ih=>?_
  intro h
  clear ih
  have key:∀(f:Nat→Nat) (m n:Nat),m≤n→sumN f m≤sumN f n:=by
   intro f m n
   induction n with
   |zero=>intro h;rw[show m=0 by omega];exact Nat.le_refl _
   |succ n ih=>
    intro h
    by_cases hm:m=n+1
    ·rw[hm];exact Nat.le_refl _
    ·rw[sumN];have:=ih (by omega);omega
  exact key v i (n+1) h
 unfold d82
 rw[zaf]
 refine zac (fun i=>(k,lst (fun i=>(v i:Int)) n,(e:Int),([],[],(false,[],[]),(false,[],[]),(false,[],[]),[],[],[]),((sumN v i:Nat):Int),lst (fun i=>(v i:Int)) n,(n:Int),(i:Int))) n rfl (fun i hi=>?_) (b:=(k,lst (fun i=>(v i:Int)) n,(e:Int),([],[],(false,[],[]),(false,[],[]),(false,[],[]),[],[],[]),((sumN v n:Nat):Int))) ?_ ?_
 ·have hp:=hpart (i+1) (by omega)
  rw[sumN]at hp
  simp only[dlt hi,d0le,zaf,xad,cond_true,tn,zan (fun i=>(v i:Int)) hi,wadd (show sumN v i+v i≤9223372036854775807 by omega),zav (show i<9223372036854775807 by omega)]
  rfl
 ·simp only[nlt (Nat.le_refl n),xac]
 have hq:w (w (Int.tdiv ((sumN v n:Nat):Int) 2)+1)=((sumN v n/2+1:Nat):Int):=by
  have h1:Int.tdiv ((sumN v n:Nat):Int) 2=((sumN v n/2:Nat):Int):=by
   rw[xej (by omega)];rfl
  rw[h1,zbj (n:=((sumN v n/2:Nat):Int)) (by omega) (by omega),zav (by omega)]
 have h0:d93 0=some (rr 0):=zgb (n:=0) (by omega)
 have h1:d93 1=some (rr 1):=zgb (n:=1) (by omega)
 simp only[d149_eq hn fun i hi=>Nat.le_trans (hv i hi) (by omega),Option.bind_some,hq,zgb (show sumN v n/2+1≤9223372036854775807 by omega),zgb he,h0,hk,zaf]
 generalize sumN v n/2+1=q
 refine zac (fun i=>((lst (fun i=>rr (v i:Rat)) n,lst (fun i=>rr (if st i=0 then 1 else 0)) i,rr (q:Rat),rr (e:Rat),rr 0,[],[],[]),(q:Int),lst (fun i=>decide (st i=0)) n,(n:Int),(i:Int))) n rfl (fun i hi=>?_) (b:=((lst (fun i=>rr (v i:Rat)) n,lst (fun i=>rr (if st i=0 then 1 else 0)) n,rr (q:Rat),rr (e:Rat),rr 0,[],[],[]),(q:Int))) ?_ rfl
 ·have hl:=fun d=>zbn (l:=lst (fun i=>rr (if st i=0 then 1 else 0)) i) (d:=d) (by rw[zaf];omega)
  simp only[dlt hi,d0le,zaf,xad,cond_true,tn,zan (fun i=>decide (st i=0)) hi,zal,zav (show i<9223372036854775807 by omega),zet]
  by_cases h:st i=0
  ·have:=hl (rr 1)
   rw[zaf]at this
   simp only[decide_eq_true h,cond_true,h1,Option.bind_some,this,if_pos h]
  ·have:=hl (rr 0)
   rw[zaf]at this
   simp only[decide_eq_false h,xac,h0,Option.bind_some,this,if_neg h,cond_true]
 ·simp only[nlt (Nat.le_refl n),xac]
theorem zqu(q:Int→Bool):∀p:List Int,zai q p=(p.takeWhile fun c=>!q c).length
 | []=>rfl
 |x::p=>by
  rw[zai,xee,zqu q p]
  cases q x<;>rfl
theorem zhw{α:Type}{p q:α→Bool}:∀{l:List α},(∀x∈l,p x=q x)→l.takeWhile p=l.takeWhile q
 | [],_=>rfl
 |x::l,h=>by
  rw[xee,xee,h x (by simp),zhw fun y hy=>h y (xah _ hy)]
theorem zoz{st:Nat→Nat}{n:Nat}{p:List Int}(hb:isB (n:Int) p):zai (rem (lst (fun i=>decide (st i=0)) n)) p=nxt p st 0:=by
 rw[zqu]
 unfold nxt
 rw[xfc,Nat.zero_add]
 congr 1
 refine zhw fun x hx=>?_
 have:=hb.2 x hx
 unfold rem
 rw[zaf,if_pos this.2,zan _ (show x.toNat<n by omega)]
 by_cases h:st x.toNat=0<;>simp[h]
theorem votes_iv{n:Nat}{gs:List Grp}{N:Int}(h:PileOK (n:Int) gs N)(c:CT)(lots:List Int)(st:Nat→Nat):zcc (lst (fun i=>decide (st i=0)) n) gs=lst (fun i=>((iv (gpOf c gs lots) st i:Nat):Int)) n:=by
 unfold zcc
 rw[zaf]
 refine zax (f:=fun(c:Nat)=>wsum (zhf (lst (fun i=>decide (st i=0)) n) (c:Int)) gs) fun x hx=>?_
 rw[wsum_sumG h (fun p=>decide (zai (rem (lst (fun i=>decide (st i=0)) n)) p<p.length)&&decide (p.getD (zai (rem (lst (fun i=>decide (st i=0)) n)) p) 0=(x:Int))) (zhf (lst (fun i=>decide (st i=0)) n) (x:Int)) (fun p=>?_) c lots]
 ·congr 1
  unfold iv GS.lie
  refine zam fun g hg=>?_
  have hb:isB (n:Int) ((gpOf c gs lots).p g):=(h.ballots _ (zbi (l:=gs) (d:=([],0)) (i:=g) hg)).1
  rw[zoz hb]
  show _=if(pl (gpOf c gs lots) st).on (gpOf c gs lots) g x=true then(gpOf c gs lots).k g*1 else 0
  rw[xda];rfl
 ·unfold zhf
  by_cases h1:zai (rem (lst (fun i=>decide (st i=0)) n)) p<p.length∧p.getD (zai (rem (lst (fun i=>decide (st i=0)) n)) p) 0=(x:Int)
  ·rw[if_pos h1,decide_eq_true h1.1,decide_eq_true h1.2];rfl
  ·rw[if_neg h1]
   have:(decide (zai (rem (lst (fun i=>decide (st i=0)) n)) p<p.length)&&decide (p.getD (zai (rem (lst (fun i=>decide (st i=0)) n)) p) 0=(x:Int)))=false:=by
    cases h2:(decide (zai (rem (lst (fun i=>decide (st i=0)) n)) p<p.length)&&decide (p.getD (zai (rem (lst (fun i=>decide (st i=0)) n)) p) 0=(x:Int)))
    ·rfl
    ·rw[xaf,xag,xag]at h2
     exact absurd h2 h1
   rw[this];rfl
theorem exh_iv{n:Nat}{gs:List Grp}{N:Int}(h:PileOK (n:Int) gs N)(c:CT)(lots:List Int)(st:Nat→Nat):wsum (zgz (lst (fun i=>decide (st i=0)) n)) gs=((iexh (gpOf c gs lots) st:Nat):Int):=by
 rw[wsum_sumG h (fun p=>!decide (zai (rem (lst (fun i=>decide (st i=0)) n)) p<p.length)) (zgz (lst (fun i=>decide (st i=0)) n)) (fun p=>?_) c lots]
 ·congr 1
  unfold iexh
  refine zam fun g hg=>?_
  have hb:isB (n:Int) ((gpOf c gs lots).p g):=(h.ballots _ (zbi (l:=gs) (d:=([],0)) (i:=g) hg)).1
  rw[zoz hb]
  by_cases hlt:nxt ((gpOf c gs lots).p g) st 0<((gpOf c gs lots).p g).length<;>simp[hlt]
 ·unfold zgz
  by_cases h1:zai (rem (lst (fun i=>decide (st i=0)) n)) p<p.length<;>simp[h1]
theorem ext0_tops(P:GP)(v st:Nat→Nat)(c:Nat):ext0 (fun x=>frac (v x.toNat) 1) (selI (fun i=>decide (st i=c)) P.n)=selI (znr P v st c false) P.n:=by
 unfold ext0
 rw[zff]
 refine zgd fun i hi=>?_
 unfold znr
 congr 1
 rw[xgd,xbi,xbi]
 constructor
 ·intro h k hk
  by_cases hc:st k=c
  ·have:=h (k:Int) (zap.2 ⟨k,rfl,List.mem_range.1 hk,decide_eq_true hc⟩)
   simpa[hc,zhg]using this
  ·simp[hc]
 ·intro h x hx
  obtain⟨k,rfl,hk,hc⟩:=zap.1 hx
  have:=h k (List.mem_range.2 hk)
  rw[hc]at this
  simpa[zhg]using this
theorem votes_rndI{P:GP}(hP:P.OK)(st:Nat→Nat):RndOK P.n (lst (fun i=>(iv P st i:Rat)) P.n):=⟨zaf _ _,fun q hq=>by
 obtain⟨i,hi,rfl⟩:=zhc.1 hq
 have h1:=zif hP st
 have h2:=mk_le hP
 have h3:=hP.tot5
 have h4:iv P st i≤ivsum P st:=zfe hi
 exact zin (by omega)⟩
theorem itied_ne{P:GP}{st:Nat→Nat}(h:0<(zeo P st).length):zfq P st≠ []:=by
 unfold zfq
 rw[←ext0_tops]
 refine zpd fun e=>?_
 have:=xbb List.length e
 rw[zao,←zby]at this
 have e2:(zeo P st).length=0:=this
 omega
theorem itied_in{P:GP}{st:Nat→Nat}{x:Int}(h:x∈zfq P st):∃i:Nat,x=(i:Int)∧i<P.n∧st i=0:=by
 obtain⟨i,h1,h2,h3⟩:=zap.1 h
 unfold znr at h3
 rw[xaf,xag]at h3
 exact⟨i,h1,h2,h3.1⟩
theorem ipick_in{P:GP}{st:Nat→Nat}(E:List (List Rat))(h:0<(zeo P st).length):∃i:Nat,ipick P E st=(i:Int)∧i<P.n∧st i=0:=by
 refine itied_in ?_
 unfold ipick
 have hne:=itied_ne h
 split
 ·exact zfl hne
 ·exact zro hne
set_option maxHeartbeats 1000000 in
theorem d86_eq{P:GP}(hP:P.OK){st:Nat→Nat}{c:CT}{gs:List Grp}(hc:c.2.2.2.2.2.2.1=P.ties){E:List (List Rat)}(hE:∀r∈E,RndOK P.n r)(hEl:E.length≤1000)(hl:0<(zeo P st).length) :
  ∃x:Nat,x<P.n∧st x=0∧ipick P E st=(x:Int)∧d86 (c,gs,P.lots,lst (fun i=>decide (st i=0)) P.n,E.map (List.map rr)) (lst (fun i=>((iv P st i:Nat):Int)) P.n) =
   some ((x:Int),(if(zfq P st).length=1 then []else zfq P st),(c,gs,P.lots,lst (fun i=>decide (upd st x 3 i=0)) P.n,(E++[lst (fun i=>(iv P st i:Rat)) P.n]).map (List.map rr))):=by
 obtain⟨x,x1,x2,x3⟩:=ipick_in E hl
 refine⟨x,x2,x3,x1,?_⟩
 have hn7:=hP.n7
 have hb:∀i,i<P.n→iv P st i≤100000:=fun i hi=>by
  have h1:=zif hP st
  have h2:=mk_le hP
  have h3:=hP.tot5
  have h4:iv P st i≤ivsum P st:=zfe hi
  omega
 unfold d86
 rw[d83_eq (st:=st) (n:=P.n) rfl (by omega),Option.bind_some]
 have hL:∀y∈selI (fun i=>decide (st i=0)) P.n,∃i:Nat,y=(i:Int)∧i<P.n:=fun y hy=>by
  obtain⟨i,h1,h2,h3⟩:=zap.1 hy
  exact⟨i,h1,h2⟩
 have hT:ext0 (fun x=>frac (iv P st x.toNat) 1) (selI (fun i=>decide (st i=0)) P.n)=zfq P st:=ext0_tops P (iv P st) st 0
 have hLl:(selI (fun i=>decide (st i=0)) P.n).length≤7:=by
  rw[zao];have:=zaw (fun i=>decide (st i=0)) P.n;omega
 generalize selI (fun i=>decide (st i=0)) P.n=L at hL hT hLl ⊢
 refine zac (fun i=>((c,gs,P.lots,lst (fun i=>decide (st i=0)) P.n,E.map (List.map rr)),lst (fun i=>((iv P st i:Nat):Int)) P.n,ext0 (fun x=>frac (iv P st x.toNat) 1) (L.take i),L,(L.length:Int),(i:Int))) L.length rfl (fun i hi=>?_) (b:=((c,gs,P.lots,lst (fun i=>decide (st i=0)) P.n,E.map (List.map rr)),lst (fun i=>((iv P st i:Nat):Int)) P.n,zfq P st)) ?_ ?_
 ·obtain⟨y,hy,hyn⟩:=hL _ (zca hi)
  have htk:L.take (i+1)=L.take i++[(y:Int)]:=by rw[zbc L 0 hi,hy]
  simp only[dlt hi,d0le,xad,cond_true,tn,zal,hy,zav (show i<9223372036854775807 by omega),htk]
  by_cases hi0:i=0
  ·subst hi0
   rw[xcz,zsr]
   have:ext0 (fun x=>frac (iv P st x.toNat) 1) ([]++[(y:Int)])=[(y:Int)]:=by
    unfold ext0
    have:frac (iv P st y) 1≤frac (iv P st y) 1:=xgh
    simp[this]
   rw[this]
   rfl
  ·have hne:L.take i≠ []:=by
    intro e
    have:=xbb List.length e
    rw[xao,xck]at this
    omega
   have hne2:=zpd (ρ:=fun x=>frac (iv P st x.toNat) 1) hne
   have hsub:∀z∈ext0 (fun x=>frac (iv P st x.toNat) 1) (L.take i),z∈L:=fun z hz=>xbv (zkn.1 hz).1
   have hlen:(ext0 (fun x=>frac (iv P st x.toNat) 1) (L.take i)).length≤7:=by
    have:=znh (fun x=>frac (iv P st x.toNat) 1) (L.take i)
    rw[xao]at this
    omega
   rw[zpc _ _ hne]
   generalize ext0 (fun x=>frac (iv P st x.toNat) 1) (L.take i)=T at hne2 hsub hlen ⊢
   obtain⟨z,T',hT'⟩:=xhb hne2
   subst hT'
   obtain⟨zn,hz,hzn⟩:=hL _ (hsub z (by simp))
   subst hz
   simp only[xgc,xat,xef,zaf,dlt hyn,dlt hzn,d0le,xad,cond_true,tn,zan (fun i=>((iv P st i:Nat):Int)) hyn,zan (fun i=>((iv P st i:Nat):Int)) hzn,decide_eq_false (show ¬((T'.length+1:Nat):Int)=0 by omega),xak,decide_eq_true (show(0:Int)<((T'.length+1:Nat):Int) by omega),show decide ((0:Nat)≤0)=true from rfl,Int.toNat_natCast,frac_lt (show 0<1 by omega),frac_inj (show 0<1 by omega)]
   have hl1:=zop (α:=Int) (l:=T'.length+1) (by rw[xat]at hlen;omega)
   by_cases c1:iv P st y<iv P st zn
   ·simp only[dlt c1,cond_true,if_pos c1]
   ·rw[if_neg c1,decide_eq_false (show ¬((iv P st y:Nat):Int)<((iv P st zn:Nat):Int) by omega),xac]
    by_cases c2:iv P st y=iv P st zn
    ·simp only[zeu,decide_eq_true c2,cond_true,hl1,if_pos c2]
    ·simp only[zeu,decide_eq_false c2,xac,if_neg c2]
 ·simp only[nlt (Nat.le_refl L.length),xac,xay,hT]
 have hne:=itied_ne hl
 have hin:=fun y hy=>itied_in (P:=P) (st:=st) (x:=y) hy
 have hlt:(zfq P st).length≤7:=by
  rw[←hT]
  have:=znh (fun x=>frac (iv P st x.toNat) 1) L
  omega
 have h154:=d149_eq (v:=iv P st) (n:=P.n) (by omega) fun i hi=>by have:=hb i hi;omega
 have hset:(lst (fun i=>decide (st i=0)) P.n).set x false=lst (fun i=>decide (upd st x 3 i=0)) P.n:=by
  rw[zdl]
  refine zax fun k _=>?_
  unfold upd
  by_cases h:k=x
  ·rw[if_pos h,if_pos h];rfl
  ·rw[if_neg h,if_neg h]
 have hlE:=zop (α:=List Rt) (l:=(E.map (List.map rr)).length) (by rw[xau];omega)
 have hmap:(E++[lst (fun i=>(iv P st i:Rat)) P.n]).map (List.map rr)=E.map (List.map rr)++[lst (fun i=>rr (iv P st i:Rat)) P.n]:=by
  rw[xcd,xdd,xga,zom]
 have hsorted:(zfq P st).Pairwise (·< ·):=zco _ _
 obtain⟨b,hb155⟩:=d150_eq (n:=P.n) (ties:=P.ties) (E:=E) (tied:=zfq P st) (lots:=P.lots) (least:=true) hP.ties1 hP.ties3 (zon hP) hE (by omega) hne hsorted (fun y hy=>by obtain⟨i,h1,h2,_⟩:=hin y hy;exact⟨i,h1,h2⟩) (by omega)
 rw[hmap]
 unfold ipick at x1
 generalize zfq P st=T at hne hlt x1 hb155 ⊢
 obtain⟨z,T',hT'⟩:=xhb hne
 subst hT'
 simp only[xat,decide_eq_true (show(0:Int)<((T'.length+1:Nat):Int) by omega),show decide ((0:Nat)≤0)=true from rfl,xad,cond_true,zal,hc,hb155,Option.bind_some,xef]
 rw[xat]at x1
 by_cases hone:T'.length+1=1
 ·rw[if_pos hone,xgc]at x1
  simp only[if_pos hone,decide_eq_false (show ¬(1:Int)<((T'.length+1:Nat):Int) by omega),xac,x1,d0le,zaf,dlt x2,xad,cond_true,h154,Option.bind_some,hlE,tn,hset]
 ·rw[if_neg hone]at x1
  simp only[if_neg hone,decide_eq_true (show(1:Int)<((T'.length+1:Nat):Int) by omega),cond_true,x1,d0le,zaf,dlt x2,xad,h154,Option.bind_some,hlE,tn,hset]
theorem zmm(g:Nat→Bool)(q:Int→Bool)(hq:∀i:Nat,q (i:Int)=g i):∀L:List Nat,(zai q (L.map Int.ofNat)<L.length∧L.find? g=some ((L.map Int.ofNat).getD (zai q (L.map Int.ofNat)) 0).toNat)∨(zai q (L.map Int.ofNat)=L.length∧L.find? g=none)
 | []=>.inr ⟨rfl,rfl⟩
 |x::L=>by
  rw[xdd,zai,List.find?_cons]
  have e:q (Int.ofNat x)=g x:=hq x
  rw[e]
  cases h:g x
  ·rcases zmm g q hq L with⟨h1,h2⟩|⟨h1,h2⟩
   ·refine .inl ⟨by simp only[xax,if_false,xat];omega,?_⟩
    simp only[xax,if_false,h2,xgx]
   ·refine .inr ⟨by simp only[xax,if_false,xat];omega,h2⟩
  ·refine .inl ⟨by simp,by simp⟩
def trI(P:GP):Int×(Int×(Int×(Int×(List RD×List Int)))):=(1,1,0,(P.n:Int),(zig P).map rdT,(zig P).flatMap Rd.el)
set_option maxHeartbeats 2000000 in
theorem d48_eq{c:CT}{gs:List Grp}{lots:List Int}(hg:GsOK gs)(hl:lots.length≤281474976710656):d48 c gs lots=some (if fitE 1 c gs lots=0 then(trI (gpOf c gs lots),0)else((0,0,0,0,[],[]),fitE 1 c gs lots)):=by
 unfold d48
 rw[d66_eq 1 c hg hl,Option.bind_some]
 by_cases hfit:¬fitE 1 c gs lots=0
 ·rw[if_neg hfit,decide_eq_false hfit];rfl
 have hfit:=xgi.1 hfit
 rw[if_pos hfit,decide_eq_true hfit,xam,xac]
 obtain⟨hP,hG⟩:=znf hfit
 obtain⟨_,_,_,n1,n7,_,_,_,_,_,_,_,hp,_,_⟩:=zii hfit
 have hlo:(gpOf c gs lots).lots=lots:=rfl
 have hti:c.2.2.2.2.2.2.1=(gpOf c gs lots).ties:=rfl
 have hPn:c.2.1.length=(gpOf c gs lots).n:=rfl
 rw[d80_eq gs lots (by omega),Option.bind_some]
 have hvot:=fun st=>votes_iv hp c lots st
 have hexh:=fun st=>exh_iv hp c lots st
 have h50:=fun(st:Nat→Nat)=>hp.d81 (by omega) (r:=lst (fun i=>decide (st i=0)) c.2.1.length) (by rw[zaf];exact n7)
 have hexb:∀st,iexh (gpOf c gs lots) st≤100000:=fun st=>by
  refine Nat.le_trans (Nat.le_trans (zdk (g:=(gpOf c gs lots).k) fun g _=>?_) (Nat.le_of_eq hP.total)) hP.tot5
  split<;>omega
 simp only[hvot,hexh]at h50
 generalize hPP:gpOf c gs lots=P at *
 rw[hPn]at n1 n7 h50 ⊢
 rw[←hlo]
 have hst0:lst (fun _=>true) P.n=lst (fun i=>decide ((fun _=>0:Nat→Nat) i=0)) P.n:=rfl
 rw[hst0]
 refine zes (Q:=fun r=>r=some (trI P,0)) (fun(M:Nat) (a:List Grp×(Int×(Int×(Int×(Int×(List RD×List Int)))))×IT×(Int×(Int×(Int×(Int×(List RD×List Int))))))=>∃(st:Nat→Nat) (rs:List Rd),a=(gs,(0,0,0,0,[],[]),(c,gs,P.lots,lst (fun i=>decide (st i=0)) P.n,(rs.map Rd.votes).map (List.map rr)),(1,1,0,(P.n:Int),rs.map rdT,[]))∧irun P M rs st=zig P∧0<(zeo P st).length∧(zeo P st).length≤M∧rs.length+M=P.n∧(∀r∈rs.map Rd.votes,RndOK P.n r)∧rs.flatMap Rd.el=[]) P.n ⟨fun _=>0,[],rfl,rfl,?_,?_,by simp,by simp,rfl⟩ ?_
 ·have:0<cntN (fun i=>decide ((fun _=>0:Nat→Nat) i=0)) P.n:=zni.2 ⟨0,by omega,rfl⟩
  unfold zeo
  rw[zby]
  exact this
 ·unfold zeo
  rw[zby]
  exact zaw _ _
 ·rintro M a ⟨st,rs,rfl,hrun,hl0,hlM,hrs,hR,hel⟩
  have hsum:=zif hP st
  have hmk:=mk_le hP
  have ht5:=hP.tot5
  have hle:=hexb st
  have h107:=d82_eq (k:=(c,gs,P.lots,lst (fun i=>decide (st i=0)) P.n,(rs.map Rd.votes).map (List.map rr))) (st:=st) (v:=iv P st) (n:=P.n) (e:=iexh P st) rfl (by omega) (by show ivsum P st≤_;omega) (by omega)
  have hquo:sumN (iv P st) P.n/2+1=iquo P st:=rfl
  rw[hquo]at h107
  have hrd:(lst (fun i=>rr (iv P st i:Rat)) P.n,lst (fun i=>rr (if st i=0 then 1 else 0)) P.n,rr (iquo P st:Rat),rr (iexh P st:Rat),rr 0,[],[],[])=rdT (ird0 P st):=by
   unfold rdT ird0
   simp only[zom]
  have hleft:selI (fun i=>decide (st i=0)) P.n=(zeo P st).map Int.ofNat:=rfl
  have hll:(zeo P st).length≤7:=by
   unfold zeo
   rw[zby]
   have:=zaw (fun i=>decide (st i=0)) P.n
   omega
  have hlin:∀i∈zeo P st,i<P.n:=fun i hi=>(zbz.1 hi).1
  have h101:=d84_on (s:=(zeo P st).map Int.ofNat) (f:=fun a=>d85 a (lst (fun i=>((iv P st i:Nat):Int)) P.n) ((iquo P st:Nat):Int)) (g:=fun x=>decide (iquo P st≤iv P st x.toNat)) (fun x hx=>by
   obtain⟨i,hi,rfl⟩:=xcv.1 hx
   have hin:=hlin i hi
   have e:Int.ofNat i=(i:Int):=rfl
   unfold d85
   rw[e]
   simp only[d0le,zaf,dlt hin,xad,cond_true,tn,zan (fun i=>((iv P st i:Nat):Int)) hin]
   congr 1
   exact xca.2 (by omega)) (by rw[xau];omega)
  simp only[h50 st,Option.bind_some,h107,d83_eq (k:=(c,gs,P.lots,lst (fun i=>decide (st i=0)) P.n,(rs.map Rd.votes).map (List.map rr))) (st:=st) (n:=P.n) rfl (by omega),hleft,h101,zal,xau,zeu]
  obtain⟨M,rfl⟩:∃M',M=M'+1:=⟨M-1,by omega⟩
  rw[irun]at hrun
  have hlr:=lim_inc (l:=rs.length) (by omega)
  have hlr1:=zop (α:=RD) (l:=rs.length) (by omega)
  have hW:∀x:Nat,(lst (fun i=>rr (iv P st i:Rat)) P.n,lst (fun i=>rr (if st i=0 then 1 else 0)) P.n,rr (iquo P st:Rat),rr (iexh P st:Rat),rr 0,[(x:Int)],[],[])=rdT (irdW P st x):=fun x=>by
   have:=xbb (fun r:RD=>(r.1,r.2.1,r.2.2.1,r.2.2.2.1,r.2.2.2.2.1,[(x:Int)],r.2.2.2.2.2.2.1,r.2.2.2.2.2.2.2)) hrd
   exact this
  have hdone:∀x:Nat,iwin P st=some x→some (((1,1,0,(P.n:Int),rs.map rdT++[rdT (irdW P st x)],[(x:Int)]):Int×(Int×(Int×(Int×(List RD×List Int))))),(0:Int))=some (trI P,0):=fun x hx=>by
   rw[hx]at hrun
   unfold trI
   rw[←hrun,xcd,xfx,hel]
   rfl
  by_cases h1:(zeo P st).length=1
  ·obtain⟨x,hx⟩:=xei.1 h1
   have hw:iwin P st=some x:=by unfold iwin;rw[if_pos h1,hx];rfl
   refine .inr ⟨((1,1,0,(P.n:Int),rs.map rdT++[rdT (irdW P st x)],[(x:Int)]),0),?_,hdone x hw⟩
   have e0:((zeo P st).map Int.ofNat).getD 0 0=(x:Int):=by rw[hx];rfl
   simp only[h1,show decide (((1:Nat):Int)=1)=true from rfl,xaq,cond_true,show decide ((0:Int)≤0)=true from rfl,show decide ((0:Int)<((1:Nat):Int))=true from rfl,xad,Int.toNat_zero,e0,hW,hlr,hlr1,xau,xat]
  ·have hd1:decide (((zeo P st).length:Int)=1)=false:=decide_eq_false (by omega)
   have hq:∀i:Nat,(fun x:Int=>decide (iquo P st≤iv P st x.toNat)) (i:Int)=decide (iquo P st≤iv P st i):=fun i=>rfl
   rcases zmm (fun i=>decide (iquo P st≤iv P st i)) (fun x=>decide (iquo P st≤iv P st x.toNat)) hq (zeo P st)with⟨f1,f2⟩|⟨f1,f2⟩
   ·generalize zai (fun x=>decide (iquo P st≤iv P st x.toNat)) ((zeo P st).map Int.ofNat)=j at f1 f2 ⊢
    obtain⟨x,hx⟩:∃x:Nat,((zeo P st).map Int.ofNat).getD j 0=(x:Int):=⟨_,zhx (p:=fun i=>decide (st i=0)) (n:=P.n) f1⟩
    rw[hx,Int.toNat_natCast]at f2
    have hw:iwin P st=some x:=by unfold iwin;rw[if_neg h1,f2]
    refine .inr ⟨((1,1,0,(P.n:Int),rs.map rdT++[rdT (irdW P st x)],[(x:Int)]),0),?_,hdone x hw⟩
    simp only[hd1,xac,if_pos f1,d0le,dlt f1,cond_true,xad,tn,hx,hW,hlr,hlr1,xau,xat]
   ·rw[f1]
    have hw:iwin P st=none:=by unfold iwin;rw[if_neg h1,f2]
    rw[hw]at hrun
    obtain⟨x,x1,x2,x3,x4⟩:=d86_eq (st:=st) (c:=c) (gs:=gs) hP hti hR (by rw[xau];omega) hl0
    have hlu:=left_upd (P:=P) x1 x2
    have hmap:(rs++[irdX P (rs.map Rd.votes) st]).map Rd.votes=rs.map Rd.votes++[lst (fun i=>(iv P st i:Rat)) P.n]:=by
     rw[xcd];rfl
    have hX:(lst (fun i=>rr (iv P st i:Rat)) P.n,lst (fun i=>rr (if st i=0 then 1 else 0)) P.n,rr (iquo P st:Rat),rr (iexh P st:Rat),rr 0,[],[(x:Int)],(if(zfq P st).length=1 then []else zfq P st))=rdT (irdX P (rs.map Rd.votes) st):=by
     have:=xbb (fun r:RD=>(r.1,r.2.1,r.2.2.1,r.2.2.2.1,r.2.2.2.2.1,([]:List Int),[(x:Int)],(if(zfq P st).length=1 then []else zfq P st))) hrd
     rw[←x3]at this ⊢
     exact this
    refine .inl ⟨(gs,(0,0,0,0,[],[]),(c,gs,P.lots,lst (fun i=>decide (upd st x 3 i=0)) P.n,((rs++[irdX P (rs.map Rd.votes) st]).map Rd.votes).map (List.map rr)),(1,1,0,(P.n:Int),(rs++[irdX P (rs.map Rd.votes) st]).map rdT,[])),M,?_,by omega,upd st x 3,rs++[irdX P (rs.map Rd.votes) st],rfl,?_,?_,by omega,by simp;omega,?_,?_⟩
    ·simp only[hd1,xac,if_neg (xil _),show decide ((0:Int)≤-1)=false from rfl,x4,Option.bind_some,hX,hlr,hlr1,cond_true,xau,xat,hmap]
     simp only[xcd]
     rfl
    ·rw[←hrun]
     simp only
     rw[x3,Int.toNat_natCast]
    ·omega
    ·rw[hmap]
     intro r hr
     rcases List.mem_append.1 hr with hr|hr
     ·exact hR r hr
     ·rw[xbm.1 hr]
      exact votes_rndI hP st
    ·rw[xfx,hel];rfl
end Go.Proofs.YtamgmpngdmnadaaGreat
namespace Go.Proofs.YtamgmpngdmnadaaGreat
open Go Go.X
def KM(Q:MP)(c:CT)(gs:List Grp)(st kp:Nat→Nat)(fl:Nat)(rs:List Rd)(ev sur:Int):MT:=
 (c,gs,Q.P.lots,(Q.one:Int),lst (fun i=>(st i:Int)) Q.P.n,lst (fun i=>(kp i:Int)) Q.P.n,(fl:Int),(rs.map Rd.votes).map (List.map rr),ev,sur,2,(Q.P.seats:Int),c.2.2.2.2.2.1,(Q.P.n:Int),rs.map rdT,rs.flatMap Rd.el)
variable {Q:MP} {s:MS}
structure MQ(Q:MP)(c:CT)(gs:List Grp)(d:Nat):Prop where
 ok:Q.OK
 P:∃lots,gpOf c gs lots=Q.P
 n:c.2.1.length=Q.P.n
 pile:∃N,PileOK (Q.P.n:Int) gs N
 seats:c.2.2.2.1=(Q.P.seats:Int)
 dig:c.2.2.2.2.2.1=(d:Int)
 d1:1≤d
 d6:d≤6
 ties:c.2.2.2.2.2.2.1=Q.P.ties
 one:Q.one=10^d
 om:Q.om=10^(d/2)
theorem MQ.d152{c:CT}{gs:List Grp}{d:Nat}(h:MQ Q c gs d)(hI:MI Q s):d152 (d:Int) (lst (fun i=>(s.kp i:Int)) Q.P.n) gs=some (lst (fun i=>((s.v Q i:Nat):Int)) Q.P.n,((s.rest Q:Nat):Int),true):=by
 obtain⟨lots,hl⟩:=h.P
 obtain⟨N,hp⟩:=h.pile
 have:=d152_ok h.ok.P.n1 h.ok.P.n7 h.d1 h.d6 hp c lots (kp:=s.kp) (by rw[←h.one];exact hI.kp1)
 rw[hl,←h.one]at this
 exact this
theorem rdM(s:MS)(el ex ti:List Int):(lst (fun i=>rr (frac (s.v Q i) Q.one)) Q.P.n,lst (fun i=>rr (frac (s.kp i) Q.one)) Q.P.n,rr (frac (s.quo Q) Q.one),rr (frac (s.rest Q) Q.one),rr (frac (s.sur Q) Q.one),el,ex,ti)=rdT {s.rd0 Q with el:=el,ex:=ex,ti:=ti}:=by
 unfold rdT MS.rd0
 simp only[zom]
theorem sur_part(p:Nat→Bool)(f:Nat→Nat)(n:Nat){j:Nat}(hj:j<(selN p n).length):(((selN p n).take (j+1)).map f).sum=(((selN p n).take j).map f).sum+f ((selN p n).getD j 0):=by
 rw[zbc (selN p n) 0 hj,xcd,xic];simp
theorem flat_lim{rs:List Rd}(h:∀r∈rs,RndOK Q.P.n r.votes∧r.el.length≤7):(rs.flatMap Rd.el).length≤7*rs.length:=zsp fun r hr=>(h r hr).2
theorem letJ_of{α β:Type}{f:α→Option β}{g:(α→Option β)→Option β}{X:Option β→Prop}(Jp:(α→Option β)→Prop)(hf:Jp f)(h:∀J,Jp J→X (g J)):X (letJ f g):=by
 rw[zal];exact h f hf
def RndM(Q:MP)(c:CT)(gs:List Grp)(s:MS)(rs:List Rd)(z:Option (Bool×MT)):Prop:=
  (s.fin Q=true∧∃st' kp' fl' ev' su',z=some (false,KM Q c gs st' kp' fl' (rs++[s.done Q]) ev' su')) ∨
  (s.fin Q=false∧s.cut Q=true∧z=some (true,KM Q c gs (s.excl Q (rs.map Rd.votes)).st (s.excl Q (rs.map Rd.votes)).kp ((s.excl Q (rs.map Rd.votes)).fl Q) (rs++[s.exR Q (rs.map Rd.votes)]) (((rs++[s.exR Q (rs.map Rd.votes)]).length:Int)-((s.excl Q (rs.map Rd.votes)).since:Int)) ((s.sur Q:Nat):Int))) ∨
  (s.fin Q=false∧s.cut Q=false∧z=some (true,KM Q c gs (s.redu Q).st (s.redu Q).kp ((s.redu Q).fl Q) (rs++[s.rd0 Q]) (((rs++[s.rd0 Q]).length:Int)-((s.redu Q).since:Int)) ((s.sur Q:Nat):Int)))
set_option maxHeartbeats 4000000 in
theorem d89_eq{c:CT}{gs:List Grp}{d:Nat}(hQ:MQ Q c gs d){rs:List Rd}(hR:MRun Q s rs)(hsi:s.since≤rs.length){su:Nat}(hb:Bef rs s.bef su) :
  RndM Q c gs s rs (d89 (KM Q c gs s.st s.kp (s.fl Q) rs ((rs.length:Int)-(s.since:Int)) (su:Int))):=by
 have hI:=hR.inv
 have hok:=hQ.ok
 have hn7:=hok.P.n7
 have hs5:=hok.P.seats5
 have ho1:=hok.one1
 have ho6:=hok.one6
 have htl:=MS.tot_le hok
 have hsum:=MS.sum_le hok hI
 have hv:∀i,i<Q.P.n→s.v Q i≤100000000000:=fun i hi=>by
  have h1:=MS.v_le hok hI hi
  omega
 have hq:s.quo Q≤100000000001:=by
  have:=MS.quo_le hok hI
  omega
 have hsurS:s.sur Q≤sumN (s.v Q) Q.P.n:=zdk fun i _=>by split<;>omega
 have hrl:=hR.len
 have hfill:=hI.fill
 have hf1:=f1_le hok hI
 have hf1e:=f1_eq (Q:=Q) (s:=s)
 have hE:∀r∈rs.map Rd.votes,RndOK Q.P.n r:=fun r hr=>by
  obtain⟨r',h1,rfl⟩:=xcv.1 hr
  exact(hR.rnd r' h1).1
 have hfl:=flat_lim hR.rnd
 obtain⟨L,hL1,hL2⟩:=d156_ex hok hI (k:=KM Q c gs s.st s.kp (s.fl Q) rs ((rs.length:Int)-(s.since:Int)) (su:Int)) rfl rfl hQ.seats rfl
 have hLlen:L.length=cntN (s.el Q) Q.P.n:=by
  have:=hL2.length_eq
  rw[xau,zao]at this
  exact this
 have hLn:∀i∈L,i<Q.P.n:=fun i hi=>by
  obtain⟨k,e,hk,_⟩:=zap.1 (hL2.mem_iff.1 (xfw hi))
  have:Int.ofNat i=(k:Int):=e
  have:=xec.1 this
  omega
 have hLl:L.length≤7:=by rw[hLlen];have:=zaw (s.el Q) Q.P.n;omega
 have hst1:lst (fun i=>((zdf s.st L 1 i:Nat):Int)) Q.P.n=lst (fun i=>((s.st1 Q i:Nat):Int)) Q.P.n:=zax fun i hi=>by
  unfold zdf MS.st1
  have:i∈L↔s.el Q i=true:=by
   constructor
   ·intro h
    obtain⟨k,e,hk,h2⟩:=zap.1 (hL2.mem_iff.1 (xfw h))
    have e:Int.ofNat i=(k:Int):=e
    rw[xec.1 e];exact h2
   ·intro h
    obtain⟨k,hk,e⟩:=xcv.1 (hL2.mem_iff.2 (zap.2 ⟨i,rfl,hi,h⟩))
    have e:Int.ofNat k=(i:Int):=e
    rw[←xec.1 e];exact hk
  by_cases h:i∈L
  ·rw[if_pos h,if_pos (this.1 h)]
  ·rw[if_neg h,if_neg fun h'=>h (this.2 h')]
 have hsel:zch ([]++L.map Int.ofNat)=selI (s.el Q) Q.P.n:=zru hL2 ((zco _ _).imp fun h=>Int.le_of_lt h)
 have hfl1:s.fl Q+L.length=s.f1 Q:=by omega
 have h159:=fun(v kk:List Rt) (qu ex su':Rt)=>d155_eq (c:=c) (gs:=gs) (lots:=Q.P.lots) (one:=(Q.one:Int)) (st:=s.st) (n:=Q.P.n) (kp:=lst (fun i=>(s.kp i:Int)) Q.P.n) (filled:=s.fl Q) (rest:=((rs.map Rd.votes).map (List.map rr),(rs.length:Int)-(s.since:Int),(su:Int),2,(Q.P.seats:Int),c.2.2.2.2.2.1,(Q.P.n:Int),rs.map rdT,rs.flatMap Rd.el)) (v:=v) (kk:=kk) (qu:=qu) (ex:=ex) (su:=su') (el:=[]) (ex2:=[]) (ti:=[]) (L:=L) (by omega) hLn hLl (by omega) (by simp)
 simp only[hst1,hsel,hfl1]at h159
 have hK:KM Q c gs s.st s.kp (s.fl Q) rs ((rs.length:Int)-(s.since:Int)) (su:Int)=(c,gs,Q.P.lots,(Q.one:Int),lst (fun i=>(s.st i:Int)) Q.P.n,lst (fun i=>(s.kp i:Int)) Q.P.n,((s.fl Q:Nat):Int),(rs.map Rd.votes).map (List.map rr),(rs.length:Int)-(s.since:Int),(su:Int),2,(Q.P.seats:Int),c.2.2.2.2.2.1,(Q.P.n:Int),rs.map rdT,rs.flatMap Rd.el):=rfl
 have h58:=hQ.d152 hI
 have h157v:=d153_eq (k:=KM Q c gs s.st s.kp (s.fl Q) rs ((rs.length:Int)-(s.since:Int)) (su:Int)) (v:=s.v Q) (n:=Q.P.n) (one:=Q.one) rfl (by omega) ho1 ho6 fun i hi=>by have:=hv i hi;omega
 have h157k:=d153_eq (k:=KM Q c gs s.st s.kp (s.fl Q) rs ((rs.length:Int)-(s.since:Int)) (su:Int)) (v:=s.kp) (n:=Q.P.n) (one:=Q.one) rfl (by omega) ho1 ho6 fun i hi=>by have:=hI.kp1 i;omega
 have hw1:w (c.2.2.2.1+1)=((Q.P.seats+1:Nat):Int):=by rw[hQ.seats,zav (by omega)]
 have hdiv:w (w (Int.tdiv ((sumN (s.v Q) Q.P.n:Nat):Int) ((Q.P.seats+1:Nat):Int))+1)=((s.quo Q:Nat):Int):=by
  have h1:Int.tdiv ((sumN (s.v Q) Q.P.n:Nat):Int) ((Q.P.seats+1:Nat):Int)=((sumN (s.v Q) Q.P.n/(Q.P.seats+1):Nat):Int):=by
   rw[xej (by omega)];rfl
  have h2:=xdl (sumN (s.v Q) Q.P.n) (Q.P.seats+1)
  have h3:s.quo Q=sumN (s.v Q) Q.P.n/(Q.P.seats+1)+1:=rfl
  rw[h1,h3]
  generalize sumN (s.v Q) Q.P.n/(Q.P.seats+1)=z at h2 ⊢
  rw[zbj (n:=(z:Int)) (by omega) (by omega),zav (by omega)]
 unfold d89
 generalize hKK:KM Q c gs s.st s.kp (s.fl Q) rs ((rs.length:Int)-(s.since:Int)) (su:Int)=K at *
 have k1:K.1=c:=by rw[hK]
 have k2:K.2.1=gs:=by rw[hK]
 have k4:K.2.2.2.1=(Q.one:Int):=by rw[hK]
 have k6:K.2.2.2.2.2.1=lst (fun i=>(s.kp i:Int)) Q.P.n:=by rw[hK]
 simp only[k1,k2,k6,hQ.dig,h58,Option.bind_some,zaf]
 have goalS:∀(X:Option (Bool×MT)→Prop) (kf:MT×(List Int)×Int×Int→Option (Bool×MT)),X (kf (K,lst (fun i=>((s.v Q i:Nat):Int)) Q.P.n,((s.rest Q:Nat):Int),((sumN (s.v Q) Q.P.n:Nat):Int)))→X ((zae (β:=(MT×(List Int)×Int×Int)) (fun((t0,t3,t4,t6,t34,t35,t36):MT×(List Int)×Int×Int×(List Int)×Int×Int)=>
   bif (decide (t36<t35))then
    bif (decide (0≤t36)&&decide (t36<(t34.length:Int)))then
     some (Sum.inl (t0,t3,t4,(w (t6+(List.getD t34 (Int.toNat t36) 0))),t34,t35,(w (t36+1))))
    else none
   else
    some (Sum.inr (t0,t3,t4,t6))) (K,lst (fun i=>((s.v Q i:Nat):Int)) Q.P.n,((s.rest Q:Nat):Int),0,lst (fun i=>((s.v Q i:Nat):Int)) Q.P.n,(Q.P.n:Int),0)).bind kf):=fun X kf hX=>by
  refine while_prp (fun i=>(K,lst (fun i=>((s.v Q i:Nat):Int)) Q.P.n,((s.rest Q:Nat):Int),((sumN (s.v Q) i:Nat):Int),lst (fun i=>((s.v Q i:Nat):Int)) Q.P.n,(Q.P.n:Int),(i:Int))) Q.P.n rfl (fun i hi=>?_) ?_ hX
  ·have hm:=znu (s.v Q) (show i+1≤Q.P.n by omega)
   rw[sumN]at hm
   simp only[dlt hi,d0le,zaf,xad,cond_true,tn,zan (fun i=>((s.v Q i:Nat):Int)) hi,wadd (show sumN (s.v Q) i+s.v Q i≤9223372036854775807 by omega),zav (show i<9223372036854775807 by omega)]
   rfl
  ·simp only[nlt (Nat.le_refl Q.P.n),xac]
 refine goalS (RndM Q c gs s rs) _ ?_
 simp only[k1,k4,k6,hw1,decide_eq_false (show ¬((Q.P.seats+1:Nat):Int)=0 by omega),xak,cond_true,hdiv,h157v,h157k,Option.bind_some,zsx (show s.quo Q≤9223372036854775807 by omega) (show Q.one≤9223372036854775807 by omega) ho1,zsx (show s.rest Q≤9223372036854775807 by omega) (show Q.one≤9223372036854775807 by omega) ho1,hL1]
 rw[hK]
 simp only[h159,Option.bind_some,show d157 (c,gs,Q.P.lots,(Q.one:Int),lst (fun i=>((s.st1 Q i:Nat):Int)) Q.P.n,lst (fun i=>(s.kp i:Int)) Q.P.n,((s.f1 Q:Nat):Int),(rs.map Rd.votes).map (List.map rr),(rs.length:Int)-(s.since:Int),(su:Int),2,(Q.P.seats:Int),c.2.2.2.2.2.1,(Q.P.n:Int),rs.map rdT,rs.flatMap Rd.el) 1=some (selI (fun i=>decide (s.st1 Q i=1)) Q.P.n)from zly (st:=s.st1 Q) (n:=Q.P.n) rfl (by omega) 1,show d157 (c,gs,Q.P.lots,(Q.one:Int),lst (fun i=>((s.st1 Q i:Nat):Int)) Q.P.n,lst (fun i=>(s.kp i:Int)) Q.P.n,((s.f1 Q:Nat):Int),(rs.map Rd.votes).map (List.map rr),(rs.length:Int)-(s.since:Int),(su:Int),2,(Q.P.seats:Int),c.2.2.2.2.2.1,(Q.P.n:Int),rs.map rdT,rs.flatMap Rd.el) 0=some (selI (fun i=>decide (s.st1 Q i=0)) Q.P.n)from zly (st:=s.st1 Q) (n:=Q.P.n) rfl (by omega) 0]
 have hpl:(selI (fun i=>decide (s.st1 Q i=1)) Q.P.n).length=(selN (fun i=>decide (s.st1 Q i=1)) Q.P.n).length:=xau ..
 have hpl7:(selN (fun i=>decide (s.st1 Q i=1)) Q.P.n).length≤7:=by rw[zby];have:=zaw (fun i=>decide (s.st1 Q i=1)) Q.P.n;omega
 have hss:=sum_sel (fun i=>decide (s.st1 Q i=1)) (fun i=>s.v Q i-s.quo Q) Q.P.n
 have hss2:sumN (fun i=>if decide (s.st1 Q i=1)=true then s.v Q i-s.quo Q else 0) Q.P.n=s.sur Q:=zam fun i _=>by
  by_cases h:s.st1 Q i=1<;>simp[h]
 rw[hss2]at hss
 refine while_prp (X:=RndM Q c gs s rs) (fun j=>((c,gs,Q.P.lots,(Q.one:Int),lst (fun i=>((s.st1 Q i:Nat):Int)) Q.P.n,lst (fun i=>(s.kp i:Int)) Q.P.n,((s.f1 Q:Nat):Int),(rs.map Rd.votes).map (List.map rr),(rs.length:Int)-(s.since:Int),(su:Int),2,(Q.P.seats:Int),c.2.2.2.2.2.1,(Q.P.n:Int),rs.map rdT,rs.flatMap Rd.el),lst (fun i=>((s.v Q i:Nat):Int)) Q.P.n,((s.quo Q:Nat):Int),(lst (fun i=>rr (frac (s.v Q i) Q.one)) Q.P.n,lst (fun i=>rr (frac (s.kp i) Q.one)) Q.P.n,rr (frac (s.quo Q) Q.one),rr (frac (s.rest Q) Q.one),(false,[],[]),selI (s.el Q) Q.P.n,[],[]),(((((selN (fun i=>decide (s.st1 Q i=1)) Q.P.n).take j).map fun i=>s.v Q i-s.quo Q).sum:Nat):Int),selI (fun i=>decide (s.st1 Q i=1)) Q.P.n,((selI (fun i=>decide (s.st1 Q i=1)) Q.P.n).length:Int),(j:Int))) (selN (fun i=>decide (s.st1 Q i=1)) Q.P.n).length (by rw[xcz];rfl) (fun j hj=>?_)
  (b:=((c,gs,Q.P.lots,(Q.one:Int),lst (fun i=>((s.st1 Q i:Nat):Int)) Q.P.n,lst (fun i=>(s.kp i:Int)) Q.P.n,((s.f1 Q:Nat):Int),(rs.map Rd.votes).map (List.map rr),(rs.length:Int)-(s.since:Int),(su:Int),2,(Q.P.seats:Int),c.2.2.2.2.2.1,(Q.P.n:Int),rs.map rdT,rs.flatMap Rd.el),lst (fun i=>((s.v Q i:Nat):Int)) Q.P.n,((s.quo Q:Nat):Int),(lst (fun i=>rr (frac (s.v Q i) Q.one)) Q.P.n,lst (fun i=>rr (frac (s.kp i) Q.one)) Q.P.n,rr (frac (s.quo Q) Q.one),rr (frac (s.rest Q) Q.one),(false,[],[]),selI (s.el Q) Q.P.n,[],[]),((s.sur Q:Nat):Int))) ?_ ?_
 ·have hg:=zft hj
  have hsg:=zhx hj
  have hvx:=hv _ hg.1
  have hpart:=znt ((selN (fun i=>decide (s.st1 Q i=1)) Q.P.n).map fun i=>s.v Q i-s.quo Q) (j+1)
  rw[←List.map_take,hss,sur_part _ _ _ hj]at hpart
  have hmax:(bif decide (0<w (((s.v Q ((selN (fun i=>decide (s.st1 Q i=1)) Q.P.n).getD j 0):Nat):Int)-((s.quo Q:Nat):Int)))then w (((s.v Q ((selN (fun i=>decide (s.st1 Q i=1)) Q.P.n).getD j 0):Nat):Int)-((s.quo Q:Nat):Int))else 0)=((s.v Q ((selN (fun i=>decide (s.st1 Q i=1)) Q.P.n).getD j 0)-s.quo Q:Nat):Int):=by
   generalize s.v Q ((selN (fun i=>decide (s.st1 Q i=1)) Q.P.n).getD j 0)=y at hvx ⊢
   rw[zbj (by omega) (by omega)]
   by_cases h:(0:Int)<(y:Int)-((s.quo Q:Nat):Int)
   ·rw[decide_eq_true h,cond_true];omega
   ·rw[decide_eq_false h,xac];omega
  simp only[hpl,dlt hj,d0le,xad,cond_true,tn,hsg,zaf,dlt hg.1,zan (fun i=>((s.v Q i:Nat):Int)) hg.1,hmax,wadd (show(((selN (fun i=>decide (s.st1 Q i=1)) Q.P.n).take j).map fun i=>s.v Q i-s.quo Q).sum+(s.v Q ((selN (fun i=>decide (s.st1 Q i=1)) Q.P.n).getD j 0)-s.quo Q)≤9223372036854775807 by omega),zav (show j<9223372036854775807 by omega),sur_part _ _ _ hj]
 ·simp only[hpl,nlt (Nat.le_refl _),xac,xay,hss]
 have hd158:=zsx (show s.sur Q≤9223372036854775807 by omega) (show Q.one≤9223372036854775807 by omega) ho1
 have hrounds:w (((rs.map rdT).length:Int)+1)=((rs.length+1:Nat):Int):=by rw[xau,zav (by omega)]
 simp only[hd158,Option.bind_some]
 refine letJ_of (X:=RndM Q c gs s rs) (fun J=>∀(st kp:Nat→Nat) (fl:Nat) (ev su':Int) (el ex ti:List Int) (last:Bool),el.length≤7→ex.length≤1→J ((c,gs,Q.P.lots,(Q.one:Int),lst (fun i=>((st i:Nat):Int)) Q.P.n,lst (fun i=>(kp i:Int)) Q.P.n,((fl:Nat):Int),(rs.map Rd.votes).map (List.map rr),ev,su',2,(Q.P.seats:Int),c.2.2.2.2.2.1,(Q.P.n:Int),rs.map rdT,rs.flatMap Rd.el),(lst (fun i=>rr (frac (s.v Q i) Q.one)) Q.P.n,lst (fun i=>rr (frac (s.kp i) Q.one)) Q.P.n,rr (frac (s.quo Q) Q.one),rr (frac (s.rest Q) Q.one),rr (frac (s.sur Q) Q.one),el,ex,ti),((s.sur Q:Nat):Int),((rs.length+1:Nat):Int),last)=some (!last,KM Q c gs st kp fl (rs++[{s.rd0 Q with el:=el,ex:=ex,ti:=ti}]) (if el=[]∧ex=[]then ev else((rs.length+1:Nat):Int)) ((s.sur Q:Nat):Int))) ?_ ?_
 ·intro st kp fl ev su' el ex ti last hel hex
  have l1:=zop (α:=List Rt) (l:=rs.length) (by omega)
  have l2:=zop (α:=RD) (l:=rs.length) (by omega)
  have l3:decide (((rs.flatMap Rd.el).length:Int)+(el.length:Int)≤LIM)=true:=zln (by omega)
  have hKM:KM Q c gs st kp fl (rs++[{s.rd0 Q with el:=el,ex:=ex,ti:=ti}]) (if el=[]∧ex=[]then ev else((rs.length+1:Nat):Int)) ((s.sur Q:Nat):Int)=(c,gs,Q.P.lots,(Q.one:Int),lst (fun i=>((st i:Nat):Int)) Q.P.n,lst (fun i=>(kp i:Int)) Q.P.n,((fl:Nat):Int),(rs.map Rd.votes).map (List.map rr)++[lst (fun i=>rr (frac (s.v Q i) Q.one)) Q.P.n],(if el=[]∧ex=[]then ev else((rs.length+1:Nat):Int)),((s.sur Q:Nat):Int),2,(Q.P.seats:Int),c.2.2.2.2.2.1,(Q.P.n:Int),rs.map rdT++[(lst (fun i=>rr (frac (s.v Q i) Q.one)) Q.P.n,lst (fun i=>rr (frac (s.kp i) Q.one)) Q.P.n,rr (frac (s.quo Q) Q.one),rr (frac (s.rest Q) Q.one),rr (frac (s.sur Q) Q.one),el,ex,ti)],rs.flatMap Rd.el++el):=by
   rw[rdM]
   unfold KM MS.rd0
   simp only[xcd,xfx,xdd,xga,xdj,xft,xbq,zom]
  rw[hKM]
  simp only[zal,xau,xat,l1,l2,l3,cond_true,wadd (show el.length+ex.length≤9223372036854775807 by omega)]
  by_cases h0:el=[]∧ex=[]
  ·rw[if_pos h0,h0.1,h0.2];rfl
  ·rw[if_neg h0,decide_eq_true,cond_true]
   have:0<el.length+ex.length:=by
    refine xfe fun h=>h0 ⟨xde.1 (by omega),xde.1 (by omega)⟩
   omega
 intro J hJ
 have h161:d157 (c,gs,Q.P.lots,(Q.one:Int),lst (fun i=>((s.st1 Q i:Nat):Int)) Q.P.n,lst (fun i=>(s.kp i:Int)) Q.P.n,((s.f1 Q:Nat):Int),(rs.map Rd.votes).map (List.map rr),(rs.length:Int)-(s.since:Int),(su:Int),2,(Q.P.seats:Int),c.2.2.2.2.2.1,(Q.P.n:Int),rs.map rdT,rs.flatMap Rd.el) 0=some (selI (fun i=>decide (s.st1 Q i=0)) Q.P.n):=zly (st:=s.st1 Q) (n:=Q.P.n) rfl (by omega) 0
 rw[hQ.seats]
 simp only[zeu,h161,Option.bind_some]
 have hse7:=zph (s:=s) hok
 by_cases c1:s.f1 Q=Q.P.seats
 ·have hf:s.fin Q=true:=by unfold MS.fin;rw[decide_eq_true c1];rfl
  have hd:{s.rd0 Q with el:=selI (s.el Q) Q.P.n,ex:=[],ti:=[]}=s.done Q:=by
   unfold MS.done
   rw[if_pos c1];rfl
  have:=hJ (s.st1 Q) s.kp (s.f1 Q) ((rs.length:Int)-(s.since:Int)) (su:Int) (selI (s.el Q) Q.P.n) [] [] true hse7 (by simp)
  rw[hd]at this
  refine .inl ⟨hf,s.st1 Q,s.kp,s.f1 Q,_,_,Eq.trans ?_ this⟩
  rw[decide_eq_true c1,cond_true,hrounds]
 rw[decide_eq_false c1,xac]
 have hh7:=zaw (fun i=>decide (s.st1 Q i=0)) Q.P.n
 have hh1:(selI (fun i=>decide (s.st1 Q i=0)) Q.P.n).length=s.h1 Q:=zao _ _
 have hh1':s.h1 Q≤7:=by
  have:s.h1 Q=cntN (fun i=>decide (s.st1 Q i=0)) Q.P.n:=rfl
  omega
 simp only[hh1,wadd (show s.f1 Q+s.h1 Q≤9223372036854775807 by omega)]
 by_cases c2:s.f1 Q+s.h1 Q≤Q.P.seats
 ·have hf:s.fin Q=true:=by unfold MS.fin;rw[decide_eq_true c2,Bool.or_true]
  rw[decide_eq_true (show((s.f1 Q+s.h1 Q:Nat):Int)≤(Q.P.seats:Int) by omega),cond_true]
  have h159':=d155_eq (c:=c) (gs:=gs) (lots:=Q.P.lots) (one:=(Q.one:Int)) (st:=s.st1 Q) (n:=Q.P.n) (kp:=lst (fun i=>(s.kp i:Int)) Q.P.n) (filled:=s.f1 Q) (rest:=((rs.map Rd.votes).map (List.map rr),(rs.length:Int)-(s.since:Int),(su:Int),2,(Q.P.seats:Int),c.2.2.2.2.2.1,(Q.P.n:Int),rs.map rdT,rs.flatMap Rd.el)) (v:=lst (fun i=>rr (frac (s.v Q i) Q.one)) Q.P.n) (kk:=lst (fun i=>rr (frac (s.kp i) Q.one)) Q.P.n) (qu:=rr (frac (s.quo Q) Q.one)) (ex:=rr (frac (s.rest Q) Q.one)) (su:=rr (frac (s.sur Q) Q.one)) (el:=selI (s.el Q) Q.P.n) (ex2:=[]) (ti:=[]) (L:=selN (fun i=>decide (s.st1 Q i=0)) Q.P.n) (by omega) (fun i hi=>(zbz.1 hi).1) (by rw[zby];omega) (by omega) (by omega)
  have hsel2:zch (selI (s.el Q) Q.P.n++(selN (fun i=>decide (s.st1 Q i=0)) Q.P.n).map Int.ofNat)=selI (fun i=>s.el Q i||decide (s.st1 Q i=0)) Q.P.n:=sortI_two (q:=fun i=>decide (s.st1 Q i=0)) (fun i h=>by
   rcases zbt (Q:=Q) (s:=s) i with⟨h0,h1,h2,_⟩|⟨h0,h2⟩
   ·rw[h2];rfl
   ·rw[h]at h0;cases h0) Q.P.n
  rw[hsel2]at h159'
  have hsl:(selI (fun i=>s.el Q i||decide (s.st1 Q i=0)) Q.P.n).length≤7:=by
   rw[zao];have:=zaw (fun i=>s.el Q i||decide (s.st1 Q i=0)) Q.P.n;omega
  have hd:{s.rd0 Q with el:=selI (fun i=>s.el Q i||decide (s.st1 Q i=0)) Q.P.n,ex:=[],ti:=[]}=s.done Q:=by
   unfold MS.done
   rw[if_neg c1];rfl
  have:=hJ (zdf (s.st1 Q) (selN (fun i=>decide (s.st1 Q i=0)) Q.P.n) 1) s.kp (s.f1 Q+(selN (fun i=>decide (s.st1 Q i=0)) Q.P.n).length) ((rs.length:Int)-(s.since:Int)) (su:Int) (selI (fun i=>s.el Q i||decide (s.st1 Q i=0)) Q.P.n) [] [] true hsl (by simp)
  rw[hd]at this
  refine .inl ⟨hf,_,_,_,_,_,Eq.trans ?_ this⟩
  have hsI:selI (fun i=>decide (s.st1 Q i=0)) Q.P.n=(selN (fun i=>decide (s.st1 Q i=0)) Q.P.n).map Int.ofNat:=rfl
  rw[hsI,h159',Option.bind_some]
  simp only[hrounds]
 have hf:s.fin Q=false:=by unfold MS.fin;rw[decide_eq_false c1,decide_eq_false c2];rfl
 rw[decide_eq_false (show ¬((s.f1 Q+s.h1 Q:Nat):Int)≤(Q.P.seats:Int) by omega),xac]
 have hlen1:((rs++[s.exR Q (rs.map Rd.votes)]).length:Int)=((rs.length+1:Nat):Int):=by simp
 have hlen2:((rs++[s.rd0 Q]).length:Int)=((rs.length+1:Nat):Int):=by simp
 have hredu:s.cut Q=false→RndM Q c gs s rs (J ((c,gs,Q.P.lots,(Q.one:Int),lst (fun i=>((s.st1 Q i:Nat):Int)) Q.P.n,lst (fun i=>((s.kp1 Q i:Nat):Int)) Q.P.n,((s.f1 Q:Nat):Int),(rs.map Rd.votes).map (List.map rr),(rs.length:Int)-(s.since:Int),(su:Int),2,(Q.P.seats:Int),c.2.2.2.2.2.1,(Q.P.n:Int),rs.map rdT,rs.flatMap Rd.el),(lst (fun i=>rr (frac (s.v Q i) Q.one)) Q.P.n,lst (fun i=>rr (frac (s.kp i) Q.one)) Q.P.n,rr (frac (s.quo Q) Q.one),rr (frac (s.rest Q) Q.one),rr (frac (s.sur Q) Q.one),selI (s.el Q) Q.P.n,[],[]),((s.sur Q:Nat):Int),((rs.length+1:Nat):Int),false)):=fun hc=>by
  have:=hJ (s.st1 Q) (s.kp1 Q) (s.f1 Q) ((rs.length:Int)-(s.since:Int)) (su:Int) (selI (s.el Q) Q.P.n) [] [] false hse7 (by simp)
  refine .inr (.inr ⟨hf,hc,?_⟩)
  rw[this,hlen2]
  show some (true,KM Q c gs (s.st1 Q) (s.kp1 Q) (s.f1 Q) (rs++[s.rd0 Q]) _ _)=some (true,KM Q c gs (s.st1 Q) (s.kp1 Q) (s.f1 Q) (rs++[s.rd0 Q]) (((rs.length+1:Nat):Int)-((if s.some1 Q then 0 else s.since+1:Nat):Int)) _)
  congr 3
  cases h1:s.some1 Q
  ·have hnil:selI (s.el Q) Q.P.n=[]:=by
    rw[←xde,zao]
    refine xge fun h=>?_
    unfold MS.some1 at h1
    exact absurd h (xdf h1)
   rw[if_pos ⟨hnil,rfl⟩]
   simp only[xax,if_false]
   omega
  ·have hnn:¬(selI (s.el Q) Q.P.n=[]∧([]:List Int)=[]):=fun h=>by
    have:=xbb List.length h.1
    rw[zao]at this
    unfold MS.some1 at h1
    have:=of_decide_eq_true h1
    simp at *
    omega
   rw[if_neg hnn]
   simp
 have h164:=d160_eq (Q:=Q) (s:=s) hok hI (c:=c) (gs:=gs) (lots:=Q.P.lots) (filled:=((s.f1 Q:Nat):Int)) (rest:=((rs.map Rd.votes).map (List.map rr),(rs.length:Int)-(s.since:Int),(su:Int),2,(Q.P.seats:Int),c.2.2.2.2.2.1,(Q.P.n:Int),rs.map rdT,rs.flatMap Rd.el))
 simp only[hrounds,zal]
 cases h1:s.some1 Q
 ·have hnil:selI (s.el Q) Q.P.n=[]:=by
   rw[←xde,zao]
   refine xge fun h=>?_
   unfold MS.some1 at h1
   exact absurd h (xdf h1)
  have hcut:s.cut Q=s.stall Q:=by unfold MS.cut;rw[h1];rfl
  have hsteq:lst (fun i=>((s.st1 Q i:Nat):Int)) Q.P.n=lst (fun i=>(s.st i:Int)) Q.P.n:=zax fun i hi=>by rw[(el_out h1 hi).2]
  have hf1fl:s.f1 Q=s.fl Q:=by
   have:cntN (s.el Q) Q.P.n=0:=by rw[←zao,hnil];rfl
   omega
  have h162:=d158_eq (Q:=Q) (s:=s) (k:=(c,gs,Q.P.lots,(Q.one:Int),lst (fun i=>((s.st1 Q i:Nat):Int)) Q.P.n,lst (fun i=>(s.kp i:Int)) Q.P.n,((s.f1 Q:Nat):Int),(rs.map Rd.votes).map (List.map rr),(rs.length:Int)-(s.since:Int),(su:Int),2,(Q.P.seats:Int),c.2.2.2.2.2.1,(Q.P.n:Int),rs.map rdT,rs.flatMap Rd.el)) (rs:=rs) hQ.d1 hQ.d6 hQ.dig rfl (by omega) hsi rfl rfl hb hQ.om
  have hz:decide (((selI (s.el Q) Q.P.n).length:Int)=0)=true:=by rw[hnil];rfl
  simp only[hz,cond_true,h162,Option.bind_some]
  cases hs:s.stall Q
  ·rw[xac]
   simp only[h164,Option.bind_some]
   exact hredu (hcut.trans hs)
  ·rw[cond_true]
   obtain⟨x,x1,x2,h163⟩:=d159_eq (Q:=Q) (s:=s) hok hI hQ.ties (gs:=gs) (one:=(Q.one:Int)) (filled:=((s.f1 Q:Nat):Int)) (E:=rs.map Rd.votes) (rest:=((rs.length:Int)-(s.since:Int),(su:Int),2,(Q.P.seats:Int),c.2.2.2.2.2.1,(Q.P.n:Int),rs.map rdT,rs.flatMap Rd.el)) hE (by rw[xau];omega) (lst (fun i=>rr (frac (s.v Q i) Q.one)) Q.P.n) (lst (fun i=>rr (frac (s.kp i) Q.one)) Q.P.n) (rr (frac (s.quo Q) Q.one)) (rr (frac (s.rest Q) Q.one)) (rr (frac (s.sur Q) Q.one)) (selI (s.el Q) Q.P.n) [] []
   rw[hsteq,h163,Option.bind_some]
   have:=hJ (upd s.st x 2) (upd s.kp x 0) (s.f1 Q) ((rs.length:Int)-(s.since:Int)) (su:Int) (selI (s.el Q) Q.P.n) [(x:Int)] (if(s.tied Q).length=1 then []else s.tied Q) false hse7 (by simp)
   refine .inr (.inl ⟨hf,hcut.trans hs,?_⟩)
   rw[hlen1]
   have hex:(s.excl Q (rs.map Rd.votes)).fl Q=s.f1 Q:=by
    rw[hf1fl]
    obtain⟨x',y1,y2,y3⟩:=zmy hI (rs.map Rd.votes)
    unfold MS.excl
    rw[y1,Int.toNat_natCast]
    exact fl_excl y2 y3
   have hex2:(s.excl Q (rs.map Rd.votes)).st=upd s.st x 2:=by
    unfold MS.excl
    rw[x2];rfl
   have hex3:(s.excl Q (rs.map Rd.votes)).kp=upd s.kp x 0:=by
    unfold MS.excl
    rw[x2];rfl
   have hexr:{s.rd0 Q with el:=selI (s.el Q) Q.P.n,ex:=[(x:Int)],ti:=if(s.tied Q).length=1 then []else s.tied Q}=s.exR Q (rs.map Rd.votes):=by
    unfold MS.exR
    rw[x2];rfl
   rw[hex,hex2,hex3]
   rw[hexr,if_neg (show ¬(selI (s.el Q) Q.P.n=[]∧[(x:Int)]=[]) by simp)]at this
   refine this.trans ?_
   show some (true,KM Q c gs (upd s.st x 2) (upd s.kp x 0) (s.f1 Q) (rs++[s.exR Q (rs.map Rd.votes)]) ((rs.length+1:Nat):Int) _)=some (true,KM Q c gs (upd s.st x 2) (upd s.kp x 0) (s.f1 Q) (rs++[s.exR Q (rs.map Rd.votes)]) (((rs.length+1:Nat):Int)-((0:Nat):Int)) _)
   rw[show((rs.length+1:Nat):Int)-((0:Nat):Int)=((rs.length+1:Nat):Int) by omega]
 ·have hz:decide (((selI (s.el Q) Q.P.n).length:Int)=0)=false:=by
   refine decide_eq_false ?_
   rw[zao]
   unfold MS.some1 at h1
   have:=of_decide_eq_true h1
   omega
  simp only[hz,xac,h164,Option.bind_some]
  exact hredu (by unfold MS.cut;rw[h1];rfl)
def mqOf(c:CT)(gs:List Grp)(lots:List Int):MP:=⟨gpOf c gs lots,10^c.2.2.2.2.2.1.toNat,10^(c.2.2.2.2.2.1.toNat/2)⟩
def trM(c:CT)(Q:MP):Int×(Int×(Int×(Int×(List RD×List Int)))):=(2,(Q.P.seats:Int),c.2.2.2.2.2.1,(Q.P.n:Int),(zhs Q).map rdT,(zhs Q).flatMap Rd.el)
theorem mqOf_ok{c:CT}{gs:List Grp}{lots:List Int}(h:fitE 2 c gs lots=0):MQ (mqOf c gs lots) c gs c.2.2.2.2.2.1.toNat:=by
 obtain⟨hP,_⟩:=znf h
 obtain⟨_,_,_,n1,n7,s1,s5,_,hd,_,t1,t3,hp,ll,hB⟩:=zii h
 obtain⟨hd1,hd6⟩:=hd rfl
 refine⟨⟨hP,ten_pos _,ten_six (by omega),ten_pos _⟩,⟨lots,rfl⟩,rfl,⟨_,hp⟩,?_,by omega,by omega,by omega,rfl,rfl,rfl⟩
 show c.2.2.2.1=(c.2.2.2.1.toNat:Int)
 omega
theorem Bef.excl'{rs:List Rd}{r:Rd}{sur:Nat}(h:r.ex≠ []):Bef (rs++[r]) none sur:=.excl rs r rfl h rfl
theorem Bef.kept'{rs:List Rd}{r:Rd}{sur:Nat}(h:r.ex=[]):Bef (rs++[r]) (some sur) sur:=.kept rs r rfl h rfl
set_option maxHeartbeats 1000000 in
theorem d49_eq{c:CT}{gs:List Grp}{lots:List Int}(hg:GsOK gs)(hl:lots.length≤281474976710656):d49 c gs lots=some (if fitE 2 c gs lots=0 then(trM c (mqOf c gs lots),0)else((0,0,0,0,[],[]),fitE 2 c gs lots)):=by
 unfold d49
 rw[d66_eq 2 c hg hl,Option.bind_some]
 by_cases hfit:¬fitE 2 c gs lots=0
 ·rw[if_neg hfit,decide_eq_false hfit];rfl
 have hfit:=xgi.1 hfit
 rw[if_pos hfit,decide_eq_true hfit,xam,xac]
 have hQ:=mqOf_ok hfit
 have hlo:(mqOf c gs lots).P.lots=lots:=rfl
 have hdig:=hQ.dig
 have hone:=hQ.one
 generalize hd:c.2.2.2.2.2.1.toNat=d at hQ hdig hone
 generalize mqOf c gs lots=Q at hQ hlo hone ⊢
 have hn:=hQ.n
 have hok:=hQ.ok
 have hn7:=hok.P.n7
 have hd6:=hQ.d6
 have h112:d88 [((Q.one:Nat):Int)] (Q.P.n:Int)=some (lst (fun _=>((Q.one:Nat):Int)) Q.P.n):=by
  unfold d88
  rw[decide_eq_true (show([((Q.one:Nat):Int)]:List Int).length=1 from rfl),decide_eq_true (show(0:Int)≤(Q.P.n:Int) by omega),decide_eq_true (show(Q.P.n:Int)≤1000 by omega),xad,xad,cond_true,tn,zol]
  rfl
 rw[hdig,d87_eq (by omega),Option.bind_some,←hone,hn]
 simp only[xaq,d0le,zbq (n:=Q.P.n) (by omega),xad,cond_true,tn,h112,Option.bind_some,hQ.seats]
 have hK0:(c,gs,lots,((Q.one:Nat):Int),List.replicate Q.P.n (0:Int),lst (fun _=>((Q.one:Nat):Int)) Q.P.n,(0:Int),([]:List (List Rt)),(0:Int),(0:Int),(2:Int),(Q.P.seats:Int),(d:Int),(Q.P.n:Int),([]:List RD),([]:List Int))=KM Q c gs Q.s0.st Q.s0.kp (Q.s0.fl Q) [] ((([]:List Rd).length:Int)-(Q.s0.since:Int)) ((0:Nat):Int):=by
  have:Q.s0.fl Q=0:=by unfold MS.fl cntN;exact zcs _
  unfold KM
  rw[this,hlo,zol,hdig]
  rfl
 rw[hK0]
 refine zes (Q:=fun r=>r=some (trM c Q,0)) (fun(M:Nat) (a:(Int×(Int×(Int×(Int×(List RD×List Int)))))×MT)=>∃(s:MS) (rs:List Rd) (su:Nat),a=((0,0,0,0,[],[]),KM Q c gs s.st s.kp (s.fl Q) rs ((rs.length:Int)-(s.since:Int)) (su:Int))∧MRun Q s rs∧s.since≤rs.length∧Bef rs s.bef su∧M=s.meas Q) (Q.s0.meas Q) ⟨Q.s0,[],0,rfl,MRun.start hok,Nat.le_refl _,.start rfl rfl,rfl⟩ ?_
 rintro M a ⟨s,rs,su,rfl,hR,hsi,hb,rfl⟩
 rcases d89_eq hQ hR hsi hb with⟨hf,st',kp',fl',ev',su',he⟩|⟨hf,hc,he⟩|⟨hf,hc,he⟩
 ·refine .inr ⟨((0,0,0,0,[],[]),KM Q c gs st' kp' fl' (rs++[s.done Q]) ev' su'),by simp only[he,Option.bind_some,xac],?_⟩
  show some ((2,(Q.P.seats:Int),c.2.2.2.2.2.1,(Q.P.n:Int),(rs++[s.done Q]).map rdT,(rs++[s.done Q]).flatMap Rd.el),0)=some (trM c Q,0)
  rw[hR.fin hf];rfl
 ·have hme:=(zpf hok hR.inv hf hc (rs.map Rd.votes)).2
  exact .inl ⟨_,(s.excl Q (rs.map Rd.votes)).meas Q,by simp only[he,Option.bind_some,cond_true],hme,_,_,s.sur Q,rfl,hR.excl hok hf hc,xbf _,Bef.excl' (by simp[MS.exR]),rfl⟩
 ·have hme:=(zog hok hR.inv hf hc).2
  refine .inl ⟨_,(s.redu Q).meas Q,by simp only[he,Option.bind_some,cond_true],hme,_,_,s.sur Q,rfl,hR.redu hok hf hc,?_,Bef.kept' rfl,rfl⟩
  show(if s.some1 Q then 0 else s.since+1)≤(rs++[s.rd0 Q]).length
  rw[List.length_append]
  split
  ·omega
  ·simp;omega
end Go.Proofs.YtamgmpngdmnadaaGreat
