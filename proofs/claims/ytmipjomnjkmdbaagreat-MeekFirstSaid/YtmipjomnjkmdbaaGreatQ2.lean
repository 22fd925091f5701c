/- Part 2 of what stands below the statement. -/
import Derived.Test.YtmipjomnjkmdbaaGreatQ1
namespace Go.X
open Go Go.RowKit
theorem zfz {S:St}:∀ {π ρ:List Nat} {t:Ty} {x:t.den} {u:Ty} {y:u.den} {p:Place},getP π t x=some ⟨u,y⟩→okP S π t p→okP S ρ u (pa p π)→okP S (π++ρ) t p
  | [],ρ,t,x,u,y,p,h,_,h2=>by simp only [getP,Option.some.injEq] at h; cases h; rw [zbx] at h2; exact h2
  | i::π,ρ,.pair a b,x,u,y,p,h,h1,h2=>by
    rw [← zbo] at h2
    match i with
    | 0=>simp only [getP] at h; exact zfz (t:=a) h h1 h2
    | 1=>simp only [getP] at h; exact zfz (t:=b) h h1 h2
    | i+2=>simp [getP] at h
  | i::π,ρ,.arr n t,x,u,y,p,h,h1,h2=>by
    rw [← zbo] at h2
    rw [zhk] at h
    rw [zdd] at h1
    rw [List.cons_append,zdd]
    exact ⟨h1.1,zfz h h1.2 h2⟩
  | i::π,ρ,.slice t,x,u,y,p,h,h1,h2=>by
    rw [← zbo] at h2
    rw [zju] at h
    rw [zdr] at h1
    rw [List.cons_append,zdr]
    exact ⟨h1.1,zfz h h1.2 h2⟩
  | i::π,ρ,.ptr t,x,u,y,p,h,h1,h2=>by
    rw [← zbo] at h2
    match i with
    | 0=>simp only [getP] at h; exact zfz (t:=t) h h1 h2
    | i+1=>simp [getP] at h
  | _::_,_,.int _,_,_,_,_,h,_,_=>by simp [getP] at h
  | _::_,_,.bool,_,_,_,_,h,_,_=>by simp [getP] at h
  | _::_,_,.str,_,_,_,_,h,_,_=>by simp [getP] at h
  | _::_,_,.unit,_,_,_,_,h,_,_=>by simp [getP] at h
  | _::_,_,.fn1 _ _,_,_,_,_,h,_,_=>by simp [getP] at h
  | _::_,_,.fn2 _ _ _,_,_,_,_,h,_,_=>by simp [getP] at h
  | _::_,_,.alt _ _ _,_,_,_,_,h,_,_=>by simp [getP] at h
  | _::_,_,.nilI,_,_,_,_,h,_,_=>by simp [getP] at h
def addL (π:List Nat) (l l2:Option (List Nat) × Nat):Option (List Nat) × Nat :=
  match l2 with
  | (some q,o)=>(some (π++q),o)
  | (none,o)=>(l.1,l.2+o)
theorem zdm:∀ {π ρ:List Nat} {t:Ty} {x:t.den} {u:Ty} {y:u.den} {l l2:Option (List Nat) × Nat},getP π t x=some ⟨u,y⟩→locP π t=some l→locP ρ u=some l2→locP (π++ρ) t=some (addL π l l2)
  | [],ρ,t,x,u,y,l,l2,h,h1,h2=>by
    simp only [getP,Option.some.injEq] at h
    cases h
    simp only [locP,Option.some.injEq] at h1
    subst h1
    rw [List.nil_append,h2]
    obtain ⟨q,o⟩:=l2
    cases q <;> simp [addL]
  | i::π,ρ,.pair a b,x,u,y,l,l2,h,h1,h2=>by
    match i with
    | 0 =>
      simp only [getP] at h
      simp only [locP,Option.map_eq_some_iff] at h1
      obtain ⟨l',h3,rfl⟩:=h1
      have:=zdm (t:=a) h h3 h2
      rw [List.cons_append]
      simp only [locP,this,Option.map_some]
      obtain ⟨q,o⟩:=l2
      cases q <;> simp [addL]
    | 1 =>
      simp only [getP] at h
      simp only [locP,Option.map_eq_some_iff] at h1
      obtain ⟨l',h3,rfl⟩:=h1
      have:=zdm (t:=b) h h3 h2
      rw [List.cons_append]
      simp only [locP,this,Option.map_some]
      obtain ⟨q,o⟩:=l2
      obtain ⟨q',o'⟩:=l'
      cases q <;> cases q' <;> simp [addL,Nat.add_assoc]
    | i+2=>simp [getP] at h
  | i::π,ρ,.arr n t,x,u,y,l,l2,h,h1,h2=>by
    rw [zhk] at h
    rw [zcw] at h1
    simp only [Option.map_eq_some_iff] at h1
    obtain ⟨l',h3,rfl⟩:=h1
    have:=zdm h h3 h2
    rw [List.cons_append,zcw,this,Option.map_some]
    obtain ⟨q,o⟩:=l2
    obtain ⟨q',o'⟩:=l'
    cases q <;> cases q' <;> simp [addL,Nat.add_assoc]
  | i::π,ρ,.slice t,x,u,y,l,l2,h,h1,h2=>by
    rw [zju] at h
    rw [zcp] at h1
    simp only [Option.map_eq_some_iff] at h1
    obtain ⟨l',h3,rfl⟩:=h1
    have:=zdm h h3 h2
    rw [List.cons_append,zcp,this,Option.map_some]
    obtain ⟨q,o⟩:=l2
    obtain ⟨q',o'⟩:=l'
    cases q <;> cases q' <;> simp [addL,Nat.add_assoc]
  | i::π,ρ,.ptr t,x,u,y,l,l2,h,h1,h2=>by
    match i with
    | 0 =>
      simp only [getP] at h
      simp only [locP,Option.map_eq_some_iff] at h1
      obtain ⟨l',h3,rfl⟩:=h1
      have:=zdm (t:=t) h h3 h2
      rw [List.cons_append]
      simp only [locP,this,Option.map_some]
      obtain ⟨q,o⟩:=l2
      obtain ⟨q',o'⟩:=l'
      cases q <;> cases q' <;> simp [addL]
    | i+1=>simp [getP] at h
  | _::_,_,.int _,_,_,_,_,_,h,_,_=>by simp [getP] at h
  | _::_,_,.bool,_,_,_,_,_,h,_,_=>by simp [getP] at h
  | _::_,_,.str,_,_,_,_,_,h,_,_=>by simp [getP] at h
  | _::_,_,.unit,_,_,_,_,_,h,_,_=>by simp [getP] at h
  | _::_,_,.fn1 _ _,_,_,_,_,_,h,_,_=>by simp [getP] at h
  | _::_,_,.fn2 _ _ _,_,_,_,_,_,h,_,_=>by simp [getP] at h
  | _::_,_,.alt _ _ _,_,_,_,_,_,h,_,_=>by simp [getP] at h
  | _::_,_,.nilI,_,_,_,_,_,h,_,_=>by simp [getP] at h
def flds:Nat→Ty→Option (List Ty)
  | 1,.pair a .unit=>some [a]
  | 2,.pair a b=>some [a,b]
  | n+3,.pair a b=>(flds (n+2) b).map (a::·)
  | _,_=>none
def zgm:Nat→Nat→Option (List Nat)
  | 1,0=>some [0]
  | 2,0=>some [0]
  | 2,1=>some [1]
  | _+3,0=>some [0]
  | n+3,f+1=>(zgm (n+2) f).map (1::·)
  | _,_=>none
def zde (o:Nat):List Ty→List (Nat × Nat)
  | []=>[]
  | t::ts=>(o,t.size)::zde (o+t.size) ts
theorem zep {S:St}:∀ {n f:Nat} {t:Ty} {fs:List Ty} {ρ:List Nat} {o0:Nat} {x:t.den} {p:Place},flds n t=some fs→zgm n f=some ρ→∃ (u:Ty) (y:u.den) (o:Nat),fs[f]? = some u∧getP ρ t x=some ⟨u,y⟩∧locP ρ t=some (none,o)∧okP S ρ t p∧(zde o0 fs)[f]? = some (o0+o,u.size)
  | 0,f,t,fs,ρ,o0,x,p,h,_=>by cases t <;> simp [flds] at h
  | 1,f,t,fs,ρ,o0,x,p,h,hf=>by
    cases t with
    | pair a b =>
      cases b <;> first | (simp [flds] at h; done) | skip
      simp only [flds,Option.some.injEq] at h
      subst h
      match f with
      | 0 =>
        simp only [zgm,Option.some.injEq] at hf
        subst hf
        exact ⟨a,x.1,0,rfl,rfl,rfl,trivial,by simp [zde]⟩
      | f+1=>simp [zgm] at hf
    | _=>simp [flds] at h
  | 2,f,t,fs,ρ,o0,x,p,h,hf=>by
    cases t with
    | pair a b =>
      simp only [flds,Option.some.injEq] at h
      subst h
      match f with
      | 0 =>
        simp only [zgm,Option.some.injEq] at hf
        subst hf
        exact ⟨a,x.1,0,rfl,rfl,rfl,trivial,by simp [zde]⟩
      | 1 =>
        simp only [zgm,Option.some.injEq] at hf
        subst hf
        exact ⟨b,x.2,a.size,rfl,rfl,by simp [locP],trivial,by simp [zde]⟩
      | f+2=>simp [zgm] at hf
    | _=>simp [flds] at h
  | n+3,f,t,fs,ρ,o0,x,p,h,hf=>by
    cases t with
    | pair a b =>
      simp only [flds,Option.map_eq_some_iff] at h
      obtain ⟨fs',h1,rfl⟩:=h
      match f with
      | 0 =>
        simp only [zgm,Option.some.injEq] at hf
        subst hf
        exact ⟨a,x.1,0,rfl,rfl,rfl,trivial,by simp [zde]⟩
      | f+1 =>
        simp only [zgm,Option.map_eq_some_iff] at hf
        obtain ⟨ρ',h2,rfl⟩:=hf
        obtain ⟨u,y,o,h3,h4,h5,h6,h7⟩:=zep (S:=S) (o0:=o0+a.size) (x:=x.2) (p:=px p 1) h1 h2
        exact ⟨u,y,a.size+o,by simpa using h3,h4,by simp [locP,h5],h6,by rw [← Nat.add_assoc]; simpa [zde] using h7⟩
    | _=>simp [flds] at h
def cden:(t:Ty)→List Value→Option (t.den × List Value)
  | .int k,.int k' n::r=>if k=k'∧k.wrap n=n then some (n,r) else none
  | .bool,.bool b::r=>some (b,r)
  | .str,.string s::r=>if s.data.toList.length≤maxL then some (s.data.toList.map (fun c=>(c.toNat:Int)),r) else none
  | .unit,r=>some ((),r)
  | .pair a b,r=>match cden a r with
    | some (x,r)=>match cden b r with
      | some (y,r)=>some ((x,y),r)
      | none=>none
    | none=>none
  | .arr n t,r=>cdenA (cden t) n r
  | .slice t,.slice none 0 0::r=>if 0 < t.size then some ([],r) else none
  | .alt _ _ b,r=>if b.size=1 then match cden b r with
    | some (z,r)=>some (.inr z,r)
    | none=>none else none
  | .nilI,.nilIface::r=>some ((),r)
  | _,_=>none
where
  cdenA {α:Type} (f:List Value→Option (α × List Value)):Nat→List Value→Option (List α × List Value)
    | 0,r=>some ([],r)
    | n+1,r=>match f r with
      | some (x,r)=>match cdenA f n r with
        | some (xs,r)=>some (x::xs,r)
        | none=>none
      | none=>none
section
variable {P:Program}
theorem zoh {S:St}:∀ {t:Ty} {l r:List Value} {x:t.den} {p:Place} {cs:Cs},cden t l=some (x,r)→(∀ i,i < t.size→cs i=l[i]?)→r=l.drop t.size∧t.size≤l.length∧Rel P t S .sh p x cs:=by
  intro t
  induction t with
  | int k =>
    intro l r x p cs h hc
    cases l with
    | nil=>simp [cden] at h
    | cons v l =>
      have h0:=hc 0 Nat.one_pos
      cases v <;> simp only [cden] at h <;> first | (cases h; done) | skip
      split at h
      · rename_i hk
        obtain ⟨rfl,hk⟩:=hk
        cases h
        exact ⟨rfl,by simp [Ty.size],h0,hk⟩
      · cases h
  | bool =>
    intro l r x p cs h hc
    cases l with
    | nil=>simp [cden] at h
    | cons v l =>
      have h0:=hc 0 Nat.one_pos
      cases v <;> simp only [cden] at h <;> first | (cases h; done) | skip
      cases h
      exact ⟨rfl,by simp [Ty.size],h0⟩
  | str =>
    intro l r x p cs h hc
    cases l with
    | nil=>simp [cden] at h
    | cons v l =>
      have h0:=hc 0 Nat.one_pos
      cases v <;> simp only [cden] at h <;> first | (cases h; done) | skip
      split at h
      · rename_i s hs
        cases h
        exact ⟨rfl,by simp [Ty.size],s,h0,rfl,by simpa using hs⟩
      · cases h
  | unit=>intro l r x p cs h hc; simp only [cden] at h; cases h; exact ⟨rfl,Nat.zero_le _,trivial⟩
  | nilI =>
    intro l r x p cs h hc
    cases l with
    | nil=>simp [cden] at h
    | cons v l =>
      have h0:=hc 0 Nat.one_pos
      cases v <;> simp only [cden] at h <;> first | (cases h; done) | skip
      cases h
      exact ⟨rfl,by simp [Ty.size],h0⟩
  | slice t ih =>
    intro l r x p cs h hc
    have h0:=hc 0 Nat.one_pos
    match l with
    | []=>simp [cden] at h
    | .slice none 0 0::l =>
      simp only [cden] at h
      split at h
      · rename_i hs
        cases h
        exact ⟨rfl,by simp [Ty.size],Nat.zero_le _,hs,none,0,0,h0,rfl,Nat.le_refl _,.inl ⟨rfl,rfl⟩⟩
      · cases h
    | .slice (some _) _ _::l=>simp [cden] at h
    | .slice none (_+1) _::l=>simp [cden] at h
    | .slice none 0 (_+1)::l=>simp [cden] at h
    | .bool _::l=>simp [cden] at h
    | .int _ _::l=>simp [cden] at h
    | .float _ _::l=>simp [cden] at h
    | .complex _ _ _::l=>simp [cden] at h
    | .string _::l=>simp [cden] at h
    | .pointer _::l=>simp [cden] at h
    | .map _::l=>simp [cden] at h
    | .chan _::l=>simp [cden] at h
    | .func _ _ _::l=>simp [cden] at h
    | .nilFunc::l=>simp [cden] at h
    | .iface _ _::l=>simp [cden] at h
    | .nilIface::l=>simp [cden] at h
    | .agg _::l=>simp [cden] at h
    | .tuple _::l=>simp [cden] at h
  | pair a b iha ihb =>
    intro l r x p cs h hc
    simp only [Ty.size] at hc
    simp only [cden] at h
    split at h
    · rename_i y r1 h1
      split at h
      · rename_i z r2 h2
        cases h
        obtain ⟨h3,h4,h5⟩:=iha (p:=px p 0) (cs:=cs) h1 fun i hi=>hc i (by omega)
        subst h3
        obtain ⟨h6,h7,h8⟩:=ihb (p:=px p 1) (cs:=fun i=>cs (a.size+i)) h2 fun i hi=>by rw [List.getElem?_drop]; exact hc _ (by omega)
        simp only [List.length_drop] at h7
        exact ⟨by rw [h6,List.drop_drop]; rfl,by simp only [Ty.size]; omega,h5,h8⟩
      · cases h
    · cases h
  | arr n t ih =>
    intro l r x p cs h hc
    have key:∀ (n:Nat) (l r:List Value) (x:List t.den) (k:Nat),cden.cdenA (cden t) n l=some (x,r)→(∀ i,i < n * t.size→cs (k * t.size+i)=l[i]?)→x.length=n∧r=l.drop (n * t.size)∧n * t.size≤l.length∧∀ (i:Nat) (h:i < x.length),Rel P t S .sh (px p (k+i)) x[i] (fun j=>cs ((k+i) * t.size+j)):=by
      intro n
      induction n with
      | zero =>
        intro l r x k h hc
        simp only [cden.cdenA] at h
        cases h
        exact ⟨rfl,by simp,by simp,fun i hi=>by simp at hi⟩
      | succ n ihn =>
        intro l r x k h hc
        simp only [cden.cdenA] at h
        split at h
        · rename_i y r1 h1
          split at h
          · rename_i ys r2 h2
            cases h
            have hs:(n+1) * t.size=t.size+n * t.size:=by rw [Nat.add_mul]; omega
            obtain ⟨h3,h4,h5⟩:=ih (p:=px p k) (cs:=fun j=>cs (k * t.size+j)) h1 fun i hi=>hc i (by omega)
            subst h3
            obtain ⟨h6,h7,h8,h9⟩:=ihn _ _ _ (k+1) h2 fun i hi=>by
              rw [List.getElem?_drop,← hc (t.size+i) (by omega)]
              congr 1
              rw [Nat.add_mul]
              omega
            simp only [List.length_drop] at h8
            refine ⟨by simp [h6],by rw [h7,List.drop_drop,hs],by omega,fun i hi=>?_⟩
            cases i with
            | zero=>exact h5
            | succ i =>
              have:=h9 i (by simpa using hi)
              rw [show k+1+i=k+(i+1) from by omega] at this
              exact this
          · cases h
        · cases h
    simp only [cden] at h
    obtain ⟨h1,h2,h3,h4⟩:=key n l r x 0 h fun i hi=>by rw [Nat.zero_mul,Nat.zero_add]; exact hc i hi
    refine ⟨h2,h3,h1,fun i hi=>?_⟩
    have:=h4 i hi
    rw [Nat.zero_add] at this
    exact this
  | alt tid a b iha ihb =>
    intro l r x p cs h hc
    simp only [cden] at h
    split at h
    case isFalse=>cases h
    rename_i hb
    split at h
    · rename_i z r1 h1
      cases h
      obtain ⟨h2,h3,h4⟩:=ihb (p:=px p 1) (cs:=cs) h1 fun i hi=>hc i (by simp only [Ty.size]; omega)
      rw [hb] at h2 h3
      exact ⟨h2,h3,hb,h4⟩
    · cases h
  | ptr t=>intro l r x p cs h hc; cases l <;> simp [cden] at h
  | fn1 a r=>intro l r x p cs h hc; cases l <;> simp [cden] at h
  | fn2 a b r=>intro l r x p cs h hc; cases l <;> simp [cden] at h
def cval (t:Ty) (v:Value):Option t.den :=
  match cden t v.cells.toList with
  | some (x,[])=>if t.agg then (match v with | .agg _=>some x | _=>none) else match v with | .agg _=>none | _=>some x
  | _=>none
theorem zbz {S:St} {t:Ty} {v:Value} {x:t.den} {p:Place} (h:cval t v=some x):SR P t S .sh p x v:=by
  unfold cval at h
  split at h
  · rename_i x' hx
    split at h
    · rename_i hag
      split at h
      · rename_i cs
        cases h
        obtain ⟨h1,h2,h3⟩:=zoh (P:=P) (S:=S) (p:=p) (cs:=fun i=>cs[i]?) hx fun i _=>by simp [Value.cells]
        refine ⟨?_,fun _=>⟨cs,rfl,?_⟩⟩
        · unfold zab; rw [if_pos hag]; exact h3
        · have:=congrArg List.length h1
          simp only [Value.cells,List.length_nil,List.length_drop,Array.length_toList] at this h2
          omega
      · cases h
    · rename_i hag
      have hs:t.size=1:=by cases t <;> first | rfl | exact absurd rfl hag
      have key:v.cells=#[v]→SR P t S .sh p x' v:=fun hv=>by
        rw [hv] at hx
        obtain ⟨h1,h2,h3⟩:=zoh (P:=P) (S:=S) (p:=p) (cs:=fun i=>if i=0 then some v else none) hx fun i hi=>by
          have:i=0:=by omega
          subst this; rfl
        refine ⟨?_,fun h=>absurd h hag⟩
        unfold zab; rw [if_neg hag]; exact h3
      split at h
      · cases h
      · rename_i hv
        cases h
        exact key (by cases v <;> first | rfl | exact absurd rfl (hv _))
  · cases h
end
end Go.X
namespace Go.X
open Go Go.RowKit
abbrev Tab:=List (TypeId × TyI × Ty)
def tl:Tab→TypeId→Option (TyI × Ty)
  | [],_=>none
  | (i,y,t)::r,id=>if id=i then some (y,t) else tl r id
def zdt (T:Tab) (k:TyK) (t:Ty):Bool :=
  match k with
  | .int k=>match t with | .int k'=>decide (k=k') | _=>false
  | .bool=>match t with | .bool=>true | _=>false
  | .string=>match t with | .str=>true | _=>false
  | .slice e=>match t,tl T e with | .slice s,some (_,s')=>decide (s=s') && decide (0 < s.size) | _,_=>false
  | .array n e=>match t,tl T e with | .arr n' s,some (_,s')=>decide (n=n') && decide (s=s') | _,_=>false
  | .struct offs=>match flds offs.length t with | some fs=>decide (offs=zde 0 fs) | none=>false
  | .iface=>match t with | .alt .. | .nilI=>true | _=>false
  | .other=>match t with | .ptr _ | .fn1 .. | .fn2 ..=>true | _=>false
def agree (T:Tab) (i:TyI) (t:Ty):Bool:=decide (i.size=t.size) && decide (i.agg=t.agg) && zdt T i.k t
def TabOK (P:Program) (T:Tab):Prop:=∀ id i t,tl T id=some (i,t)→ty P id=some i∧agree T i t=true
def Ty.isSlice:Ty→Bool
  | .slice _=>true
  | _=>false
inductive Opd where
  | slot (t:Nat) (c:Slot) (root:Slot)
  | con (v:Value)
  | fn (f:Nat)
  | bad
def zcd (σ:Env):Ent→Slot
  | .ref r _ _=>σ r
  | .view r _ _=>σ r
  | .tail r _ _=>σ r
  | _=>⟨.dead,0,0⟩
def look (σ:Env):Operand→Opd
  | .tmp t=>.slot t (σ t) (zcd σ (σ t).e)
  | .const v=>.con v
  | .func f=>.fn f
  | .global _=>.bad
structure Pl where
  r:Nat
  c:Slot
  t:Ty
  m:Md
  x:t.den
  π:List Nat
def genB (c:Slot) (t:Ty) (π:List Nat) (s:Nat):Bool:=if zge π t then decide (c.h=s) else decide (c.g=s)
def Opd.place:Opd→Option Pl
  | .slot t c root=>match c.e with
    | .v (.ptr u) (.own e m) x=>some ⟨t,c,.ptr u,.own e m,x,[0]⟩
    | .ref r π s=>match root.e with
      | .v tr mr xr=>if genB root tr π s then some ⟨r,root,tr,mr,xr,π⟩ else none
      | _=>none
    | _=>none
  | _=>none
def Opd.splace:Opd→Option Pl
  | .slot t c root=>match c.e with
    | .v (.slice u) (.own e m) x=>some ⟨t,c,.slice u,.own e m,x,[]⟩
    | .view r π s=>match root.e with
      | .v tr mr xr=>if root.h=s then some ⟨r,root,tr,mr,xr,π⟩ else none
      | _=>none
    | _=>none
  | _=>none
def Opd.val (o:Opd) (t:Ty):Option (Md × t.den) :=
  match o with
  | .con v=>(cval t v).map fun x=>(.sh,x)
  | .slot _ c root=>match c.e with
    | .v t' m x=>(TV.to ⟨t',x⟩ t).map fun x=>(m,x)
    | .view _ π s=>match root.e with
      | .v tr mr xr=>if root.h=s∧t.isSlice=true then match zaz π tr mr,getP π tr xr with
        | some (.own e k),some y=>(y.to t).map fun x=>(.own e k,x)
        | _,_=>none else none
      | _=>none
    | _=>none
  | _=>none
section
variable {P:Program} {c:Ctx} {σ:Env} {a:Act} {S:St}
theorem InvOf.ent (h:InvOf P c σ a S) (t:Nat):SlotOK P S σ (tmv a) t:=h.slots t
theorem SlotOK.ref {tm:Nat→Value} {t r:Nat} {π:List Nat} {s:Nat} (h:SlotOK P S σ tm t) (he:(σ t).e=.ref r π s):RefOK S σ r π s (tm t):=by
  unfold SlotOK at h; rw [he] at h; exact h
theorem SlotOK.view {tm:Nat→Value} {t r:Nat} {π:List Nat} {s:Nat} (h:SlotOK P S σ tm t) (he:(σ t).e=.view r π s):ViewOK S σ r π s (tm t):=by
  unfold SlotOK at h; rw [he] at h; exact h
theorem zpm {c:Slot} {t:Ty} {π:List Nat} {s:Nat}:genB c t π s=true↔gen c t π s:=by
  unfold genB gen
  split <;> simp
theorem InvOf.place (h:InvOf P c σ a S) {o:Operand} {p:Pl} (hp:(look σ o).place=some p) :
    (σ p.r).e=.v p.t p.m p.x∧p.c=σ p.r∧p.π ≠ []∧okP S p.π p.t (p.r,[])∧∃ q off b,locP p.π p.t=some (some q,off)∧hvB (S.hv (p.r,q))=some b∧a.eval o=.pointer (some ⟨b,off,none⟩):=by
  cases o with
  | const v=>simp [look,Opd.place] at hp
  | func f=>simp [look,Opd.place] at hp
  | global g=>simp [look,Opd.place] at hp
  | tmp t =>
    simp only [look,Opd.place] at hp
    split at hp
    · rename_i u e m x he
      cases hp
      have hs:=h.slot he
      obtain ⟨⟨h0,g,cur,e',h1,h2,h3,h4,h5⟩,_⟩:=hs
      refine ⟨he,rfl,by simp,trivial,[],0,g,by simp [locP],by rw [h1]; rfl,?_⟩
      have:zab (.ptr u) (tmv a t) 0=some (tmv a t):=by simp [zab,Ty.agg]
      rw [this] at h0
      rw [zav,Option.some.inj h0,h1]
    · rename_i r π s he
      have hr:zcd σ (σ t).e=σ r:=by rw [he]; rfl
      rw [hr] at hp
      split at hp
      · rename_i tr mr xr hroot
        split at hp
        · rename_i hg
          cases hp
          obtain ⟨_,h2⟩:=(h.ent t).ref he
          obtain ⟨q,o,b,h3,h4,h5,h6⟩:=h2 tr mr xr hroot (zpm.1 hg)
          exact ⟨hroot,rfl,by rintro rfl; simp [locP] at h3,h4,q,o,b,h3,h5,by rw [zav,h6]⟩
        · cases hp
      · cases hp
    · cases hp
theorem InvOf.splace (h:InvOf P c σ a S) {o:Operand} {p:Pl} (hp:(look σ o).splace=some p) :
    (σ p.r).e=.v p.t p.m p.x∧p.c=σ p.r∧okP S p.π p.t (p.r,[])∧a.eval o=S.hv (p.r,p.π):=by
  cases o with
  | const v=>simp [look,Opd.splace] at hp
  | func f=>simp [look,Opd.splace] at hp
  | global g=>simp [look,Opd.splace] at hp
  | tmp t =>
    simp only [look,Opd.splace] at hp
    split at hp
    · rename_i u e m x he
      cases hp
      obtain ⟨⟨_,_,h0,_⟩,_⟩:=h.slot he
      have:zab (.slice u) (tmv a t) 0=some (tmv a t):=by simp [zab,Ty.agg]
      rw [this] at h0
      exact ⟨he,rfl,trivial,by rw [zav]; exact Option.some.inj h0⟩
    · rename_i r π s he
      have hr:zcd σ (σ t).e=σ r:=by rw [he]; rfl
      rw [hr] at hp
      split at hp
      · rename_i tr mr xr hroot
        split at hp
        · rename_i hg
          cases hp
          obtain ⟨_,h2⟩:=(h.ent t).view he
          obtain ⟨h3,h4⟩:=h2 tr mr xr hroot hg
          exact ⟨hroot,rfl,h3,by rw [zav,h4]⟩
        · cases hp
      · cases hp
    · cases hp
theorem InvOf.hdr (h:InvOf P c σ a S) {r:Nat} {u:Ty} {e:TypeId} {m:Md} {x:List u.den} (he:(σ r).e=.v (.slice u) (.own e m) x):tmv a r=S.hv (r,[]):=by
  obtain ⟨⟨_,_,h0,_⟩,_⟩:=h.slot he
  have:zab (.slice u) (tmv a r) 0=some (tmv a r):=by simp [zab,Ty.agg]
  rw [this] at h0
  exact Option.some.inj h0
theorem InvOf.val (h:InvOf P c σ a S) {o:Operand} {t:Ty} {m:Md} {x:t.den} (hv:(look σ o).val t=some (m,x)):∃ p,SR P t S m p x (a.eval o):=by
  cases o with
  | const v =>
    simp only [look,Opd.val,Option.map_eq_some_iff,Prod.mk.injEq] at hv
    obtain ⟨y,h1,rfl,rfl⟩:=hv
    exact ⟨(0,[]),zbz h1⟩
  | func f=>simp [look,Opd.val] at hv
  | global g=>simp [look,Opd.val] at hv
  | tmp s =>
    simp only [look,Opd.val] at hv
    split at hv
    · rename_i t' m' x' he
      simp only [Option.map_eq_some_iff,Prod.mk.injEq] at hv
      obtain ⟨y,h1,rfl,rfl⟩:=hv
      have:=TV.to_some h1
      cases this
      exact ⟨_,h.slot he⟩
    · rename_i r π s' he
      have hr:zcd σ (σ s).e=σ r:=by rw [he]; rfl
      rw [hr] at hv
      split at hv
      · rename_i tr mr xr hroot
        split at hv
        · rename_i hg
          split at hv
          · rename_i e k y hm hgp
            simp only [Option.map_eq_some_iff,Prod.mk.injEq] at hv
            obtain ⟨z,h1,rfl,rfl⟩:=hv
            have:=TV.to_some h1
            subst this
            obtain ⟨_,h2⟩:=(h.ent s).view he
            obtain ⟨h3,h4⟩:=h2 tr mr xr hroot hg.1
            obtain ⟨u,y,l,cs',h5,h6,h7,h8⟩:=Rel.at (h.slot hroot).1 hm h3
            rw [hgp] at h5
            cases h5
            rw [zbb] at h7
            refine ⟨(r,π),?_⟩
            rw [zav,h4]
            cases t <;> first | (have:=hg.2; cases this; done) | skip
            refine ⟨h7.mono (q:=true) (.inl rfl) ⟨fun _ h=>h,fun _ _=>rfl,fun _ _ h=>.inr h,fun _ _ _=>rfl,fun _=>rfl,fun _ _ h=>⟨h,rfl⟩⟩ fun i hi=>?_,fun h=>by cases h⟩
            have:i=0:=by simp only [Ty.size] at hi; omega
            subst this
            rw [h7.2.2.1]
            rfl
          · cases hv
        · cases hv
      · cases hv
    · cases hv
end
end Go.X
set_option linter.unusedSimpArgs false
set_option linter.unusedVariables false
namespace Go.X
open Go Go.RowKit
def Ty.flat:Ty→Bool
  | .int _ | .bool | .str | .unit | .nilI=>true
  | .pair a b=>a.flat && b.flat
  | .arr _ t=>t.flat
  | .alt _ a b=>a.flat && b.flat
  | _=>false
def nm (t:Ty) (m:Md):Md:=if t.flat && live t m then .sh else m
def ires (k:IntKind) (n:Int):TV:=⟨.int k,k.wrap n⟩
def bres (b:Bool):TV:=⟨.bool,b⟩
def iop (op:BinOp) (k:IntKind) (x y:Int):Option (Bool × TV) :=
  match op with
  | .add=>some (true,ires k (x+y))
  | .sub=>some (true,ires k (x - y))
  | .mul=>some (true,ires k (x * y))
  | .quo=>some (!decide (y=0),ires k (x.tdiv y))
  | .rem=>some (!decide (y=0),ires k (x.tmod y))
  | .and=>some (true,ires k (BitVec.ofInt k.bits x &&& BitVec.ofInt k.bits y).toNat)
  | .or=>some (true,ires k (BitVec.ofInt k.bits x ||| BitVec.ofInt k.bits y).toNat)
  | .xor=>some (true,ires k (BitVec.ofInt k.bits x ^^^ BitVec.ofInt k.bits y).toNat)
  | .andNot=>some (true,ires k (BitVec.ofInt k.bits x &&& ~~~(BitVec.ofInt k.bits y)).toNat)
  | .eql=>some (true,bres (decide (x=y)))
  | .neq=>some (true,bres (!decide (x=y)))
  | .lss=>some (true,bres (decide (x < y)))
  | .leq=>some (true,bres (decide (x≤y)))
  | .gtr=>some (true,bres (decide (y < x)))
  | .geq=>some (true,bres (decide (y≤x)))
  | _=>none
def bin2 (op:BinOp) (a b:TV):Option (Bool × TV) :=
  match a,b with
  | ⟨.int k,x⟩,⟨.int k',y⟩=>match op with
    | .shl=>some (decide (0≤(y:Int)),ires k ((x:Int) * 2 ^ (min (y:Int).toNat k.bits)))
    | .shr=>some (decide (0≤(y:Int)),ires k ((x:Int).fdiv (2 ^ (min (y:Int).toNat k.bits))))
    | op=>if k=k' then iop op k x y else none
  | ⟨.bool,x⟩,⟨.bool,y⟩=>match op with
    | .eql=>some (true,bres ((x:Bool) == y))
    | .neq=>some (true,bres (!((x:Bool) == y)))
    | _=>none
  | ⟨.str,x⟩,⟨.str,y⟩=>match op with
    | .eql=>some (true,bres (decide ((x:List Int)=y)))
    | .neq=>some (true,bres (!decide ((x:List Int)=y)))
    | _=>none
  | _,_=>none
def eqTV:Nat→(a b:Ty)→a.den→b.den→Option Bool
  | 1,.pair (.int k) .unit,.pair (.int k') .unit,x,y=>if k=k' then some (decide ((x.1:Int)=y.1)) else none
  | 2,.pair (.int k) (.int l),.pair (.int k') (.int l'),x,y=>if k=k'∧l=l' then some (decide ((x.1:Int)=y.1) && decide ((x.2:Int)=y.2)) else none
  | n+3,.pair (.int k) b,.pair (.int k') b',x,y=>if k=k' then (eqTV (n+2) b b' x.2 y.2).map fun r=>decide ((x.1:Int)=y.1) && r else none
  | _,_,_,_,_=>none
def eqS (i:TyI) (op:BinOp) (a b:Ty) (m m':Md) (u:a.den) (v:b.den):Option Bool :=
  match op,i.k with
  | .eql,.struct offs=>if i.eqs=true∧(m=.sh∨m=.bw)∧(m'=.sh∨m'=.bw) then eqTV offs.length a b u v else none
  | _,_=>none
def un1 (op:UnOp) (a:TV):Option TV :=
  match op,a with
  | .not,⟨.bool,b⟩=>some (bres !b)
  | .neg,⟨.int k,n⟩=>some (ires k (0 - (n:Int)))
  | .xor,⟨.int k,n⟩=>some (ires k (BitVec.ofInt k.bits (if k.signed then -1 else k.max) ^^^ BitVec.ofInt k.bits (n:Int)).toNat)
  | _,_=>none
section
variable {P:Program}
theorem wrap_wrap (k:IntKind) (n:Int):k.wrap (k.wrap n)=k.wrap n:=by
  cases k <;> simp only [IntKind.wrap,IntKind.bits,IntKind.signed] <;> simp <;> (repeat' split) <;> omega
theorem zht (k:IntKind) {n:Int} (h:k.wrap n=n):k.min≤n∧n≤k.max:=by
  cases k <;> simp only [IntKind.wrap,IntKind.bits,IntKind.signed,IntKind.min,IntKind.max] at h ⊢ <;> simp at h ⊢ <;> (repeat' split at h) <;> omega
theorem zfd (k:IntKind) {n:Int} (h0:k.min≤n) (h1:n≤k.max):k.wrap n=n:=by
  cases k <;> simp only [IntKind.wrap,IntKind.bits,IntKind.signed,IntKind.min,IntKind.max] at h0 h1 ⊢ <;> simp at h0 h1 ⊢ <;> (repeat' split) <;> omega
theorem SR.int_inv {k:IntKind} {S:St} {m:Md} {p:Place} {x:Int} {v:Value} (h:SR P (.int k) S m p x v) (hm:m ≠ .dead):v=.int k x∧k.wrap x=x:=by
  have h1:zab (.int k) v 0=some (.int k x)∧k.wrap x=x:=by cases m <;> first | exact absurd rfl hm | exact h.1
  simpa [zab,Ty.agg] using h1
theorem SR.bool_inv {S:St} {m:Md} {p:Place} {x:Bool} {v:Value} (h:SR P .bool S m p x v) (hm:m ≠ .dead):v=.bool x:=by
  have h1:zab .bool v 0=some (.bool x):=by cases m <;> first | exact absurd rfl hm | exact h.1
  simpa [zab,Ty.agg] using h1
theorem SR.str_inv {S:St} {m:Md} {p:Place} {x:List Int} {v:Value} (h:SR P .str S m p x v) (hm:m ≠ .dead):∃ s:ByteArray,v=.string s∧s.data.toList.map (fun c=>(c.toNat:Int))=x∧x.length≤maxL:=by
  have h1:∃ s:ByteArray,zab .str v 0=some (.string s)∧s.data.toList.map (fun c=>(c.toNat:Int))=x∧x.length≤maxL:=by cases m <;> first | exact absurd rfl hm | exact h.1
  obtain ⟨s,h2,h3⟩:=h1
  exact ⟨s,by simpa [zab,Ty.agg] using h2,h3⟩
theorem SR.of_int {k:IntKind} {S:St} {p:Place} (n:Int):SR P (.int k) S .sh p (k.wrap n) (.int k (k.wrap n)):=⟨⟨by simp [zab,Ty.agg],wrap_wrap k n⟩,fun h=>by cases h⟩
theorem SR.of_int' {k:IntKind} {S:St} {p:Place} {n:Int} (h:k.wrap n=n):SR P (.int k) S .sh p n (.int k n):=⟨⟨by simp [zab,Ty.agg],h⟩,fun h=>by cases h⟩
theorem SR.of_bool {S:St} {p:Place} (b:Bool):SR P .bool S .sh p b (.bool b):=⟨by show zab .bool _ 0=_; simp [zab,Ty.agg],fun h=>by cases h⟩
def Stands (P:Program) (S:St) (y:TV) (v:Value):Prop:=∀ p,SR P y.t S .sh p y.x v
theorem zcn (P:Program) (S:St) (k:IntKind) (n:Int):Stands P S (ires k n) (.int k (k.wrap n)):=fun _=>SR.of_int n
theorem zbs (P:Program) (S:St) (b:Bool):Stands P S (bres b) (.bool b):=fun _=>SR.of_bool b
theorem tmod_wrap (k:IntKind) (x y:Int) (h:k.wrap x=x):k.wrap (x.tmod y)=x.tmod y:=by
  obtain ⟨h0,h1⟩:=zht k h
  have hm:(x.tmod y).natAbs≤x.natAbs:=by
    rw [Int.natAbs_tmod]; exact Nat.mod_le _ _
  have hs:0≤x→0≤x.tmod y:=fun h=>Int.tmod_nonneg _ h
  have hs':x≤0→x.tmod y≤0:=fun h=>by
    have:=Int.tmod_nonneg (a:=-x) y (by omega)
    rw [Int.neg_tmod] at this
    omega
  have hmin:k.min≤0:=by cases k <;> simp [IntKind.min,IntKind.signed,IntKind.bits]
  have hmax:0≤k.max:=by cases k <;> simp [IntKind.max,IntKind.signed,IntKind.bits]
  refine zfd k ?_ ?_
  · rcases Int.le_total 0 x with h | h
    · have:=hs h; omega
    · have:=hs' h; omega
  · rcases Int.le_total 0 x with h | h
    · have:=hs h; omega
    · have:=hs' h; omega
theorem fdiv_wrap (k:IntKind) (x:Int) (n:Nat) (h:k.wrap x=x):k.wrap (x.fdiv (2 ^ n))=x.fdiv (2 ^ n):=by
  obtain ⟨h0,h1⟩:=zht k h
  have hp:(0:Int) < 2 ^ n:=Int.pow_pos (by omega)
  have hmin:k.min≤0:=by cases k <;> simp [IntKind.min,IntKind.signed,IntKind.bits]
  have hmax:0≤k.max:=by cases k <;> simp [IntKind.max,IntKind.signed,IntKind.bits]
  rw [Int.fdiv_eq_ediv_of_nonneg _ (Int.le_of_lt hp)]
  have h2:=Int.mul_ediv_add_emod x (2 ^ n)
  have h3:=Int.emod_nonneg x (Int.ne_of_gt hp)
  have h4:=Int.emod_lt_of_pos x hp
  generalize x / 2 ^ n=q at *
  generalize (2:Int) ^ n=p at *
  have hpq:∀ (q:Int),0≤q→q≤p * q:=fun q hq=>by
    have:=Int.mul_le_mul_of_nonneg_right (show (1:Int)≤p from hp) hq
    omega
  refine zfd k ?_ ?_
  · rcases Int.le_total 0 q with h | h
    · omega
    · have h5:=hpq (-q) (by omega)
      rw [Int.mul_neg] at h5
      rcases Int.le_total 0 x with hx | hx
      · have hq:¬ q < 0:=fun h6=>by
          have:=hpq (-q - 1) (by omega)
          rw [Int.mul_sub,Int.mul_neg,Int.mul_one] at this
          omega
        have:q=0:=by omega
        rw [this]
        exact hmin
      · have:q < 0∨q=0:=by omega
        rcases this with h6 | h6
        · have:=hpq (-q - 1) (by omega)
          rw [Int.mul_sub,Int.mul_neg,Int.mul_one] at this
          omega
        · omega
  · rcases Int.le_total 0 q with h | h
    · have:=hpq q h; omega
    · omega
theorem zhp {S:St} {k:IntKind} {n:Int} (h:k.wrap n=n):Stands P S (ires k n) (.int k n):=fun p=>by
  have:=SR.of_int (P:=P) (S:=S) (p:=p) (k:=k) n
  rw [h] at this
  show SR P (.int k) S .sh p (k.wrap n) (.int k n)
  rw [h]
  exact this
theorem run_iop {S:St} {op:BinOp} {k:IntKind} {x y:Int} {ob:Bool} {z:TV} (h:iop op k x y=some (ob,z)) (hob:ob=true) (hx:k.wrap x=x) (t:TypeId) (w:World) :
    ∃ v,(binOp op t (.int k x) (.int k y)).run P w=.ok v w∧Stands P S z v:=by
  unfold iop at h
  split at h <;> first | (cases h; done) | (simp only [Option.some.injEq,Prod.mk.injEq] at h; obtain ⟨rfl,rfl⟩:=h)
  · exact ⟨_,by simp [binOp,Op.intArith],zcn P S k _⟩
  · exact ⟨_,by simp [binOp,Op.intArith],zcn P S k _⟩
  · exact ⟨_,by simp [binOp,Op.intArith],zcn P S k _⟩
  · have hy:y ≠ 0:=by simpa using hob
    exact ⟨_,by simp [binOp,Op.intDiv,hy] <;> rfl,zcn P S k _⟩
  · have hy:y ≠ 0:=by simpa using hob
    exact ⟨.int k (x.tmod y),by simp [binOp,Op.intDiv,hy],zhp (tmod_wrap k x y hx)⟩
  · exact ⟨_,by simp [binOp,Op.intBits] <;> rfl,zcn P S k _⟩
  · exact ⟨_,by simp [binOp,Op.intBits] <;> rfl,zcn P S k _⟩
  · exact ⟨_,by simp [binOp,Op.intBits] <;> rfl,zcn P S k _⟩
  · exact ⟨_,by simp [binOp,Op.intBits] <;> rfl,zcn P S k _⟩
  · exact ⟨.bool (decide (x=y)),by simp [binOp,Op.intCmp] <;> rfl,zbs P S _⟩
  · exact ⟨.bool (!decide (x=y)),by simp [binOp,Op.intCmp] <;> rfl,zbs P S _⟩
  · exact ⟨.bool (decide (x < y)),by simp [binOp,Op.intCmp],zbs P S _⟩
  · exact ⟨.bool (decide (x≤y)),by simp [binOp,Op.intCmp],zbs P S _⟩
  · exact ⟨.bool (decide (y < x)),by simp [binOp,Op.intCmp],zbs P S _⟩
  · exact ⟨.bool (decide (y≤x)),by simp [binOp,Op.intCmp],zbs P S _⟩
theorem zeq {n:Nat} {t:Ty} {fs:List Ty} (h:flds n t=some fs):∃ a b,t=.pair a b:=by
  cases t <;> first | exact ⟨_,_,rfl⟩ | (exfalso; match n,h with
    | 0,h=>simp [flds] at h
    | 1,h=>simp [flds] at h
    | 2,h=>simp [flds] at h
    | n+3,h=>simp [flds] at h)
theorem kindOK_bool {T:Tab} {k:TyK} (h:zdt T k .bool=true):k=.bool:=by
  cases k <;> simp only [zdt] at h <;> first | rfl | (cases h; done) | skip
  split at h
  · rename_i hf; obtain ⟨a,b,h⟩:=zeq hf; cases h
  · cases h
theorem zjr {T:Tab} {k:TyK} (h:zdt T k .str=true):k=.string:=by
  cases k <;> simp only [zdt] at h <;> first | rfl | (cases h; done) | skip
  split at h
  · rename_i hf; obtain ⟨a,b,h⟩:=zeq hf; cases h
  · cases h
theorem zjs {T:Tab} {k:TyK} {ik:IntKind} (h:zdt T k (.int ik)=true):k=.int ik:=by
  cases k <;> simp only [zdt] at h <;> first | (rw [of_decide_eq_true h]; done) | (cases h; done) | skip
  split at h
  · rename_i hf; obtain ⟨a,b,h⟩:=zeq hf; cases h
  · cases h
theorem zca {T:Tab} {k:TyK} {s:Ty} (h:zdt T k (.slice s)=true):∃ e i,k=.slice e∧tl T e=some (i,s)∧0 < s.size:=by
  cases k <;> simp only [zdt] at h <;> first | (cases h; done) | skip
  · rename_i e
    split at h
    · rename_i s1 i s2 hs1 hs2
      simp only [Bool.and_eq_true,decide_eq_true_eq] at h
      cases hs1
      exact ⟨e,i,rfl,by rw [hs2,h.1],h.2⟩
    · cases h
  · split at h
    · rename_i hf; obtain ⟨a,b,h⟩:=zeq hf; cases h
    · cases h
theorem znv {T:Tab} {k:TyK} {n:Nat} {s:Ty} (h:zdt T k (.arr n s)=true):∃ e i,k=.array n e∧tl T e=some (i,s):=by
  cases k <;> simp only [zdt] at h <;> first | (cases h; done) | skip
  · rename_i n' e
    split at h
    · rename_i n2 s1 i s2 hs1 hs2
      simp only [Bool.and_eq_true,decide_eq_true_eq] at h
      cases hs1
      exact ⟨e,i,by rw [h.1],by rw [hs2,h.2]⟩
    · cases h
  · split at h
    · rename_i hf; obtain ⟨a,b,h⟩:=zeq hf; cases h
    · cases h
theorem zdf {T:Tab} {t:Ty} {offs:List (Nat × Nat)} (h:zdt T (.struct offs) t=true):∃ fs,flds offs.length t=some fs∧offs=zde 0 fs:=by
  simp only [zdt] at h
  split at h
  · rename_i fs hf; exact ⟨fs,hf,of_decide_eq_true h⟩
  · cases h
theorem TabOK.kind {T:Tab} (hT:TabOK P T) {id:TypeId} {i:TyI} {t:Ty} (h:tl T id=some (i,t)):ty P id=some i∧i.size=t.size∧i.agg=t.agg∧zdt T i.k t=true:=by
  obtain ⟨h1,h2⟩:=hT id i t h
  simp only [agree,Bool.and_eq_true,decide_eq_true_eq] at h2
  exact ⟨h1,h2.1.1,h2.1.2,h2.2⟩
theorem u8_inj {x y:ByteArray}:(x.data.toList=y.data.toList)↔(x.data.toList.map (fun c=>(c.toNat:Int))=y.data.toList.map (fun c=>(c.toNat:Int))):=by
  refine ⟨fun h=>by rw [h],fun h=>?_⟩
  have:∀ (l m:List UInt8),l.map (fun c=>(c.toNat:Int))=m.map (fun c=>(c.toNat:Int))→l=m:=by
    intro l
    induction l with
    | nil=>intro m h; cases m <;> simp at h ⊢
    | cons a l ih =>
      intro m h
      cases m with
      | nil=>simp at h
      | cons b m =>
        simp only [List.map_cons,List.cons.injEq] at h
        rw [ih m h.2]
        have:a.toNat=b.toNat:=by omega
        rw [UInt8.toNat_inj.1 this]
  exact this _ _ h
theorem run_bin2 {S:St} {op:BinOp} {t:TypeId} {x y z:TV} {m m':Md} {p p':Place} {u v:Value} {ob:Bool} {tt:Tab} (hT:TabOK P tt) {i:TyI} (ht:tl tt t=some (i,x.t)) (hx:SR P x.t S m p x.x u) (hy:SR P y.t S m' p' y.x v) (hm:m ≠ .dead) (hm':m' ≠ .dead)
    (h:bin2 op x y=some (ob,z)) (hob:ob=true) (a b:Operand) (w:World) :
    ∃ r,(do eqGuard op t a b u v; binOp op t u v:Sem Value).run P w=.ok r w∧Stands P S z r:=by
  have hty:=hT t i x.t ht
  obtain ⟨j,d,hi,hd,hz,hs,hb,hk⟩:=zat hty.1
  have hkind:zdt tt i.k x.t=true:=by
    have:=hty.2
    simp only [agree,Bool.and_eq_true] at this
    exact this.2
  have guard:∀ {u v:Value},u ≠ .nilIface→(∀ cs,u ≠ .agg cs)→(eqGuard op t a b u v).run P w=.ok () w:=fun {u v} hu hv=>by
    unfold eqGuard
    cases op <;> first | rfl | (cases u <;> first | rfl | exact absurd rfl hu | exact absurd rfl (hv _) | (cases v <;> rfl))
  unfold bin2 at h
  split at h
  · rename_i k xx k' yy
    obtain ⟨rfl,hwx⟩:=hx.int_inv hm
    obtain ⟨rfl,hwy⟩:=hy.int_inv hm'
    simp only [Sem.run_bind,guard (show Value.int k xx ≠ .nilIface from by simp) (by simp),Result.andThen_ok]
    split at h
    · simp only [Option.some.injEq,Prod.mk.injEq] at h
      obtain ⟨rfl,rfl⟩:=h
      have hy0:¬ (yy:Int) < 0:=Int.not_lt.2 (by simpa using hob)
      exact ⟨_,by simp [binOp,Op.shift,hy0] <;> rfl,zcn P S k _⟩
    · simp only [Option.some.injEq,Prod.mk.injEq] at h
      obtain ⟨rfl,rfl⟩:=h
      have hy0:¬ (yy:Int) < 0:=Int.not_lt.2 (by simpa using hob)
      exact ⟨_,by simp [binOp,Op.shift,hy0] <;> rfl,zhp (fdiv_wrap k _ _ hwx)⟩
    · split at h
      · rename_i hk
        subst hk
        exact run_iop h hob hwx t w
      · cases h
  · rename_i xx yy
    have:=hx.bool_inv hm
    subst this
    have:=hy.bool_inv hm'
    subst this
    simp only [Sem.run_bind,guard (show Value.bool xx ≠ .nilIface from by simp) (by simp),Result.andThen_ok]
    have hbool:d=.bool:=tyK_bool (by rw [← kindOK_bool hkind]; exact hk)
    subst hbool
    split at h <;> first | (cases h; done) | (simp only [Option.some.injEq,Prod.mk.injEq] at h; obtain ⟨rfl,rfl⟩:=h)
    · exact ⟨_,run_eql_bool (P:=P) w t _ _ hd,zbs P S _⟩
    · exact ⟨_,run_neq_bool (P:=P) w t _ _ hd,zbs P S _⟩
  · rename_i xx yy
    obtain ⟨s,rfl,h1,_⟩:=hx.str_inv hm
    obtain ⟨s',rfl,h2,_⟩:=hy.str_inv hm'
    simp only [Sem.run_bind,guard (show Value.string s ≠ .nilIface from by simp) (by simp),Result.andThen_ok]
    have he:(s.toList == s'.toList)=decide ((xx:List Int)=yy):=by
      rw [Bool.eq_iff_iff,beq_iff_eq,decide_eq_true_iff,ByteArray.toList_eq,ByteArray.toList_eq,u8_inj,h1,h2]
    split at h <;> first | (cases h; done) | (simp only [Option.some.injEq,Prod.mk.injEq] at h; obtain ⟨rfl,rfl⟩:=h)
    · exact ⟨_,by rw [binOp_string_eql]; rfl,by rw [he]; exact zbs P S _⟩
    · exact ⟨_,by rw [binOp_string_neq]; rfl,by rw [he]; exact zbs P S _⟩
  · cases h
end
end Go.X
set_option linter.unusedSimpArgs false
set_option linter.unusedVariables false
namespace Go.X
open Go Go.RowKit
def zov (c:Slot) (t:Ty) (π:List Nat):Nat:=if zge π t then c.h else c.g
def Pl.deref (p:Pl) (u:Ty):Option Ent :=
  match zaz p.π p.t p.m,getP p.π p.t p.x with
  | some k,some y=>if y.t=u then
      if k.noown then some (.v y.t (nm y.t k) y.x) else
      match y.t,k with
      | .slice _,.own _ _=>some (.view p.r p.π p.c.h)
      | .ptr _,.own _ _=>some (.ref p.r (p.π++[0]) (zov p.c p.t (p.π++[0])))
      | _,_=>none else none
  | _,_=>none
def Opd.ro:Opd→Option TM
  | .slot _ c _=>match c.e with
    | .v (.ptr u) .sh x=>some ⟨u,.sh,x⟩
    | .v (.ptr u) .bw x=>some ⟨u,.bw,x⟩
    | _=>none
  | _=>none
def zga (T:Tab) (ty:TypeId) (o:Opd):Option Ent :=
  match o with
  | .con v=>match tl T ty with
    | some (_,t)=>(cval t v).map fun x=>.v t .sh x
    | none=>none
  | .slot s c _=>match c.e with
    | .v t m x=>if m.noown then some (.v t m x) else match t,m with
      | .slice _,.own _ _=>some (.view s [] c.h)
      | .ptr _,.own _ _=>some (.ref s [0] c.g)
      | _,_=>none
    | .ref r π s=>some (.ref r π s)
    | .view r π s=>some (.view r π s)
    | .clo f caps=>some (.clo f caps)
    | _=>none
  | .fn f=>some (.clo f [])
  | .bad=>none
def Opd.ival:Opd→Option (IntKind × Int)
  | .con (.int k n)=>if k.wrap n=n then some (k,n) else none
  | .slot _ c _=>match c.e with
    | .v (.int k) .sh n=>some (k,n)
    | .v (.int k) .bw n=>some (k,n)
    | _=>none
  | _=>none
def zgx (T:Tab) (s f:Nat) (o:Opd):Option Ent :=
  match tl T s with
  | some (i,ts)=>match i.k with
    | .struct offs=>match offs[f]?,zgm offs.length f with
      | some (_,sz),some ρ=>if sz=0 then none else
        match o.place with
        | some p=>match getP p.π p.t p.x with
          | some y=>if y.t=ts then some (.ref p.r (p.π++ρ) (zov p.c p.t (p.π++ρ))) else none
          | none=>none
        | none=>match o.ro with
          | some e=>if e.t=ts then match getP ρ e.t e.x with
            | some y=>some (.v (.ptr y.t) e.m y.x)
            | none=>none else none
          | none=>none
      | _,_=>none
    | _=>none
  | none=>none
def fieldV (T:Tab) (s f:Nat) (o:Opd):Option Ent :=
  match tl T s with
  | some (i,ts)=>match i.k with
    | .struct offs=>match offs[f]?,zgm offs.length f,i.fa[f]? with
      | some (_,_),some ρ,some (some g)=>match o.val ts with
        | some (m,x)=>if m=.sh∨m=.bw then match getP ρ ts x with
          | some y=>if y.t.agg=g then some (.v y.t m y.x) else none
          | none=>none else none
        | none=>none
      | _,_,_=>none
    | _=>none
  | none=>none
def indexV (T:Tab) (t:Nat) (o:Opd) (ix:Opd):Option (Bool × Ent) :=
  match tl T t,ix.ival with
  | some (_,.arr n u),some (_,i)=>match o.val (.arr n u) with
    | some (m,xs)=>if m=.sh∨m=.bw then some (decide (0≤i) && decide (i < (n:Int)),.v u m (xs.getD i.toNat u.dflt)) else none
    | none=>none
  | _,_=>none
def indexE (T:Tab) (t:Nat) (o:Opd) (ix:Opd):Option (Bool × Ent) :=
  match tl T t,ix.ival with
  | some (_,.slice u),some (_,i)=>match o.splace with
    | some p=>match zaz p.π p.t p.m,getP p.π p.t p.x with
      | some (.own _ _),some ⟨.slice u',xs⟩=>if u'=u then some (decide (0≤i) && decide (i < (xs.length:Int)),.ref p.r (p.π++[i.toNat]) (zov p.c p.t (p.π++[i.toNat]))) else none
      | _,_=>none
    | none=>match o.val (.slice u) with
      | some (.sh,xs)=>some (decide (0≤i) && decide (i < (xs.length:Int)),.v (.ptr u) .sh (xs.getD i.toNat u.dflt))
      | some (.bw,xs)=>some (decide (0≤i) && decide (i < (xs.length:Int)),.v (.ptr u) .bw (xs.getD i.toNat u.dflt))
      | _=>none
  | some (_,.arr n u),some (_,i)=>match o.place with
    | some p=>match getP p.π p.t p.x with
      | some y=>if y.t=.arr n u then some (decide (0≤i) && decide (i < (n:Int)),.ref p.r (p.π++[i.toNat]) (zov p.c p.t (p.π++[i.toNat]))) else none
      | none=>none
    | none=>match o.ro with
      | some ⟨.arr n' u',m,xs⟩=>if n'=n∧u'=u then some (decide (0≤i) && decide (i < (n:Int)),.v (.ptr u') m (xs.getD i.toNat u'.dflt)) else none
      | _=>none
  | _,_=>none
def loadE (T:Tab) (t:Nat) (o:Opd):Option Ent :=
  match tl T t with
  | some (_,u)=>match o.place with
    | some p=>p.deref u
    | none=>match o.ro with
      | some e=>if e.t=u then some (.v e.t (nm e.t e.m) e.x) else none
      | none=>none
  | none=>none
def lenE (T:Tab) (t:Nat) (o:Opd):Option Ent :=
  match tl T t with
  | some (_,.slice u)=>match o.val (.slice u) with
    | some (m,xs)=>if m=.dead then none else some (.v (.int .i64) .sh (xs.length:Int))
    | none=>none
  | some (_,.str)=>match o.val .str with
    | some (m,x)=>if m=.dead then none else some (.v (.int .i64) .sh ((x:List Int).length:Int))
    | none=>none
  | _=>none
def zfu (T:Tab) (o:Oper) (l:Operand→Opd):Option (Bool × Ent) :=
  match o.op with
  | .move x=>(zga T o.type (l x)).map fun e=>(true,e)
  | .binOp op t x y t'=>match tl T t,tl T t' with
    | some (i,a),some (_,b)=>match (l x).val a,(l y).val b with
      | some (m,u),some (m',v)=>if m=.dead∨m'=.dead then none else match eqS i op a b m m' u v with
        | some r=>some (true,.v .bool .sh r)
        | none=>(bin2 op ⟨a,u⟩ ⟨b,v⟩).map fun q=>(q.1,.v q.2.t .sh q.2.x)
      | _,_=>none
    | _,_=>none
  | .unOp op t x=>match tl T t with
    | some (_,a)=>match (l x).val a with
      | some (m,u)=>if m=.dead then none else (un1 op ⟨a,u⟩).map fun q=>(true,.v q.t .sh q.x)
      | none=>none
    | none=>none
  | .convert s d x=>match tl T s,tl T d with
    | some (_,.int k),some (_,.int k')=>match (l x).val (.int k) with
      | some (m,n)=>if m=.dead then none else some (true,.v (.int k') .sh (k'.wrap n))
      | none=>none
    | _,_=>none
  | .fieldAddr s x f=>(zgx T s f (l x)).map fun e=>(true,e)
  | .indexAddr t x i=>indexE T t (l x) (l i)
  | .field s x f=>(fieldV T s f (l x)).map fun e=>(true,e)
  | .index t x i=>indexV T t (l x) (l i)
  | .load t x=>(loadE T t (l x)).map fun e=>(true,e)
  | .call { callee:=.builtin .len,args:=⟨[x]⟩,argTypes:=⟨[t]⟩ }=>(lenE T t (l x)).map fun e=>(true,e)
  | .call { callee:=.builtin .min,args:=⟨[x,y]⟩,argTypes:=_ }=>match (l x).ival,(l y).ival with
    | some (k,u),some (k',v)=>if k=k' then some (true,.v (.int k) .sh (bif decide (v < u) then v else u)) else none
    | _,_=>none
  | .call { callee:=.builtin .max,args:=⟨[x,y]⟩,argTypes:=_ }=>match (l x).ival,(l y).ival with
    | some (k,u),some (k',v)=>if k=k' then some (true,.v (.int k) .sh (bif decide (v > u) then v else u)) else none
    | _,_=>none
  | _=>none
def zgj (P:Program) (S:St) (σ:Env) (e:Ent) (v:Value):Prop :=
  match e with
  | .v t m x=>m.noown=true∧∃ p,SR P t S m p x v
  | .ref r π s=>RefOK S σ r π s v
  | .view r π s=>ViewOK S σ r π s v
  | .tail r s lo=>TailOK S σ r s lo v
  | .clo f caps=>∃ ps:List Value,v=.func (.func f) #[] ps.toArray∧ps.length=caps.length∧∀ (k:Nat) (c:Cap),caps[k]? = some c→∃ u,ps[k]? = some u∧CapOK P S σ u c
  | .mth nm e=>∃ u,v=.func (.method nm) #[u] #[]∧SR P e.t S .bw (0,[]) e.x u
  | .dead=>True
  | _=>False
section
variable {P:Program} {c:Ctx} {σ:Env} {a:Act} {S:St}
theorem InvOf.putE (h:InvOf P c σ a S) {d:Nat} (hd:d < c.N) {e:Ent} {v:Value} (he:zgj P S σ e v):InvOf P c (set1 σ d e 0) (a.put (some d) v) S:=by
  cases e with
  | v t m x =>
    obtain ⟨hm,p,hs⟩:=he
    exact h.putv hd (hs.free hm (.refl S))
  | ref r π s=>exact h.putref hd he
  | view r π s=>exact h.putview hd he
  | tail r s lo=>exact h.puttail hd he
  | clo f caps =>
    refine h.put (.refl _) rfl rfl hd (fun _ _ _=>rfl) (fun _=>.inl rfl) ?_
    unfold SlotOK
    rw [zbd]
    obtain ⟨ps,h1,h2,h3⟩:=he
    refine ⟨ps,by rw [zai (by rw [h.size]; exact hd)]; exact h1,h2,fun k c hk=>?_⟩
    obtain ⟨u,h4,h5⟩:=h3 k c hk
    refine ⟨u,h4,?_⟩
    cases c with
    | ref r π s =>
      refine RefOK.keep h5 ?_
      by_cases hrd:r=d
      · subst hrd
        exact ⟨by rw [zag]; exact Nat.le_refl _,.inl (by rw [zag]; exact Nat.lt_succ_self _)⟩
      · exact .refl (h.gens r) (zaj σ _ _ hrd) fun _=>rfl
    | val e=>exact h5
  | tup es=>exact he.elim
  | skip=>exact he.elim
  | mth nm e =>
    refine h.put (.refl _) rfl rfl hd (fun _ _ _=>rfl) (fun _=>.inl rfl) ?_
    unfold SlotOK
    rw [zbd]
    obtain ⟨u,h1,h2⟩:=he
    exact ⟨u,by rw [zai (by rw [h.size]; exact hd)]; exact h1,h2⟩
  | dead =>
    refine h.put (.refl _) rfl rfl hd (fun _ _ _=>rfl) (fun _=>.inl rfl) ?_
    unfold SlotOK
    rw [zbd]
    trivial
theorem InvOf.refTo (h:InvOf P c σ a S) {r:Nat} {t:Ty} {m:Md} {x:t.den} {π q:List Nat} {o b:Nat} (hr:(σ r).e=.v t m x) (hl:locP π t=some (some q,o)) (ho:okP S π t (r,[])) (hb:hvB (S.hv (r,q))=some b) :
    RefOK S σ r π (zov (σ r) t π) (.pointer (some ⟨b,o,none⟩)):=by
  refine ⟨?_,fun t' m' x' hr' _=>?_⟩
  · unfold zov; split
    · exact Nat.le_refl _
    · exact h.gens r
  · rw [hr] at hr'
    cases hr'
    exact ⟨q,o,b,hl,ho,hb,rfl⟩
theorem InvOf.viewTo (h:InvOf P c σ a S) {r:Nat} {t:Ty} {m:Md} {x:t.den} {π:List Nat} (hr:(σ r).e=.v t m x) (ho:okP S π t (r,[])):ViewOK S σ r π (σ r).h (S.hv (r,π)) :=
  ⟨Nat.le_refl _,fun t' m' x' hr' _=>by rw [hr] at hr'; cases hr'; exact ⟨ho,rfl⟩⟩
theorem zim {t:Ty} {m:Md} {p:Place} {x:t.den} {v:Value} (h:SR P t S m p x v):SR P t S (nm t m) p x v:=by
  have key:∀ (t:Ty) (m:Md),t.flat=true→live t m=true→leM t m .sh=true:=by
    intro t
    induction t with
    | pair a b iha ihb =>
      intro m hf hl
      simp only [Ty.flat,Bool.and_eq_true] at hf
      simp only [live,Bool.and_eq_true] at hl
      simp only [leM,Bool.and_eq_true]
      exact ⟨iha _ hf.1 hl.1,ihb _ hf.2 hl.2⟩
    | arr n t ih=>intro m hf hl; exact ih m hf hl
    | alt tid a b iha ihb =>
      intro m hf hl
      simp only [Ty.flat,Bool.and_eq_true] at hf
      cases m <;> first | (cases hl; done) | (simp only [live,Bool.and_eq_true] at hl; simp only [leM,Bool.and_eq_true]; exact ⟨iha _ hf.1 hl.1,ihb _ hf.2 hl.2⟩)
    | slice t=>intro m hf; cases hf
    | ptr t=>intro m hf; cases hf
    | fn1=>intro m hf; cases hf
    | fn2=>intro m hf; cases hf
    | _=>intro m hf hl; cases m <;> first | rfl | (cases hl; done)
  unfold nm
  split
  · rename_i hc
    simp only [Bool.and_eq_true] at hc
    exact ⟨h.1.weaken (key t m hc.1 hc.2),h.2⟩
  · exact h
theorem zin {t:Ty} {m:Md} (h:m.noown=true):(nm t m).noown=true:=by
  unfold nm; split
  · rfl
  · exact h
theorem InvOf.ival (h:InvOf P c σ a S) {o:Operand} {k:IntKind} {n:Int} (hv:(look σ o).ival=some (k,n)):a.eval o=.int k n∧k.wrap n=n:=by
  cases o with
  | const v =>
    simp only [look] at hv
    cases v <;> simp only [Opd.ival] at hv <;> first | (cases hv; done) | skip
    split at hv
    · rename_i hw; cases hv; exact ⟨rfl,hw⟩
    · cases hv
  | func f=>simp [look,Opd.ival] at hv
  | global g=>simp [look,Opd.ival] at hv
  | tmp t =>
    simp only [look,Opd.ival] at hv
    split at hv
    · rename_i k' n' he
      cases hv
      exact (h.slot he).int_inv (by simp)
    · rename_i k' n' he
      cases hv
      exact (h.slot he).int_inv (by simp)
    · cases hv
theorem InvOf.ro (h:InvOf P c σ a S) {o:Operand} {e:TM} (hv:(look σ o).ro=some e):(e.m=.sh∨e.m=.bw)∧∃ b off,a.eval o=.pointer (some ⟨b,off,none⟩)∧(e.t.size ≠ 0→S.G e.m b)∧∃ p,Rel P e.t S e.m p e.x (blk S.w b off):=by
  cases o with
  | const v=>simp [look,Opd.ro] at hv
  | func f=>simp [look,Opd.ro] at hv
  | global g=>simp [look,Opd.ro] at hv
  | tmp t =>
    simp only [look,Opd.ro] at hv
    have hc:∀ {u:Ty} ,zab (.ptr u) (tmv a t) 0=some (tmv a t):=fun {u}=>by simp [zab,Ty.agg]
    split at hv
    · rename_i u x he
      cases hv
      obtain ⟨⟨b,o,h1,h2,h3⟩,_⟩:=h.slot he
      rw [hc] at h1
      exact ⟨.inl rfl,b,o,Option.some.inj h1,h2,_,h3⟩
    · rename_i u x he
      cases hv
      obtain ⟨⟨b,o,h1,h2,h3⟩,_⟩:=h.slot he
      rw [hc] at h1
      exact ⟨.inr rfl,b,o,Option.some.inj h1,h2,_,h3⟩
    · cases hv
theorem InvOf.phdr (h:InvOf P c σ a S) {r:Nat} {u:Ty} {e:TypeId} {m:Md} {x:u.den} (he:(σ r).e=.v (.ptr u) (.own e m) x):∃ g,tmv a r=S.hv (r,[])∧S.hv (r,[])=.pointer (some ⟨g,0,none⟩):=by
  obtain ⟨⟨h0,g,cur,e',h1,_⟩,_⟩:=h.slot he
  have:zab (.ptr u) (tmv a r) 0=some (tmv a r):=by simp [zab,Ty.agg]
  rw [this] at h0
  exact ⟨g,Option.some.inj h0,h1⟩
theorem InvOf.move_sound (h:InvOf P c σ a S) {T:Tab} {ty:TypeId} {o:Operand} {e:Ent} (hx:zga T ty (look σ o)=some e):zgj P S σ e (a.eval o):=by
  cases o with
  | const v =>
    simp only [look,zga] at hx
    split at hx
    · simp only [Option.map_eq_some_iff] at hx
      obtain ⟨x,h1,rfl⟩:=hx
      exact ⟨rfl,(0,[]),zbz h1⟩
    · cases hx
  | func f =>
    simp only [look,zga,Option.some.injEq] at hx
    subst hx
    exact ⟨[],rfl,rfl,fun k c hk=>by simp at hk⟩
  | global g=>simp [look,zga] at hx
  | tmp s =>
    simp only [look,zga] at hx
    rw [zav]
    split at hx
    · rename_i t m x he
      split at hx
      · rename_i hm
        cases hx
        exact ⟨hm,_,h.slot he⟩
      · split at hx
        · cases hx
          have:=h.viewTo (π:=[]) he trivial
          rw [← h.hdr he] at this
          exact this
        · cases hx
          obtain ⟨g,h1,h2⟩:=h.phdr he
          have:=h.refTo (π:=[0]) (q:=[]) (o:=0) (b:=g) he (by simp [locP]) trivial (by rw [h2]; rfl)
          rw [h1,h2]
          exact this
        · cases hx
    · rename_i r π s' he
      cases hx
      exact (h.ent s).ref he
    · rename_i r π s' he
      cases hx
      exact (h.ent s).view he
    · rename_i f caps he
      cases hx
      have:=h.ent s
      unfold SlotOK at this
      rw [he] at this
      exact this
    · cases hx
end
end Go.X
namespace Go.X
open Go Go.RowKit
section
variable {P:Program} {c:Ctx} {σ:Env} {a:Act} {S:St} {T:Tab}
theorem Tr.id (S:St) (p:Place):Tr true S S p p:=⟨fun _ h=>h,fun _ _=>rfl,fun _ _ h=>.inr h,fun _ _ _=>rfl,fun _=>rfl,fun _ _ h=>⟨h,rfl⟩⟩
theorem Rel.cong {t:Ty} {m:Md} {p:Place} {x:t.den} {cs cs':Cs} (h:Rel P t S m p x cs) (hc:∀ i,i < t.size→cs' i=cs i):Rel P t S m p x cs':=h.mono (.inl rfl) (.id S p) hc
theorem znk {cs:Cs} {n:Nat} (h:∀ i,i < n→∃ u,cs i=some u∧u.oneCell'=true):∃ vs:List Value,vs.length=n∧(∀ i,i < n→vs[i]? = cs i)∧∀ u∈vs,u.oneCell'=true:=by
  induction n with
  | zero=>exact ⟨[],rfl,fun i hi=>absurd hi (Nat.not_lt_zero _),by simp⟩
  | succ n ih =>
    obtain ⟨vs,h1,h2,h3⟩:=ih fun i hi=>h i (by omega)
    obtain ⟨u,h4,h5⟩:=h n (by omega)
    refine ⟨vs++[u],by simp [h1],fun i hi=>?_,fun w hw=>?_⟩
    · by_cases hin:i < n
      · rw [List.getElem?_append_left (by omega)]; exact h2 i hin
      · have:i=n:=by omega
        subst this
        rw [List.getElem?_append_right (by omega),h4]
        simp [h1]
    · rcases List.mem_append.1 hw with h | h
      · exact h3 w h
      · simp at h; subst h; exact h5
theorem zox (hT:TabOK P T) {t:TypeId} {i:TyI} {u:Ty} (ht:tl T t=some (i,u)) {m:Md} {p:Place} {y:u.den} {b off:Nat} (h:Rel P u S m p y (blk S.w b off)) :
    ∃ v,(Instr.loadAt t (.pointer (some ⟨b,off,none⟩))).run P S.w=.ok v S.w∧SR P u S m p y v∧∀ i,i < u.size→zab u v i=blk S.w b off i:=by
  obtain ⟨hty,hsz,hag,_⟩:=hT.kind ht
  obtain ⟨j,d,hi,hd,_,hs,_,_⟩:=zat hty
  by_cases hagg:u.agg=true
  · obtain ⟨vs,h1,h2,h3⟩:=znk h.cells
    have hc:∀ i,i < u.size→zab u (.agg vs.toArray) i=blk S.w b off i:=fun i hi=>by
      unfold zab
      rw [if_pos hagg]
      simpa using h2 i hi
    refine ⟨.agg vs.toArray,?_,⟨h.cong hc,fun _=>⟨_,rfl,by simpa using h1⟩⟩,hc⟩
    have hl:(loadCells ⟨b,off,none⟩ vs.length).run P S.w=.ok vs.toArray S.w:=run_loadCells_list (P:=P) S.w ⟨b,off,none⟩ vs fun k v hk=>by
      have hlt:k < u.size:=by
        rcases Nat.lt_or_ge k vs.length with h' | h'
        · omega
        · rw [List.getElem?_eq_none h'] at hk; cases hk
      rw [zdh,← hk,h2 k hlt]
      rfl
    rw [h1] at hl
    simp [Instr.loadAt,Instr.sureAddr,loadVar,zmj hty,hag,hagg,sizeOf,typeInfo,hi,hs,hsz,hl]
  · have hs1:u.size=1:=by cases u <;> first | rfl | exact absurd rfl hagg
    obtain ⟨v,h1,h2⟩:=h.cells 0 (by omega)
    have hc:∀ i,i < u.size→zab u v i=blk S.w b off i:=fun i hi=>by
      have:i=0:=by omega
      subst this
      unfold zab
      rw [if_neg hagg,h1]
      rfl
    refine ⟨v,?_,⟨h.cong hc,fun h=>absurd h hagg⟩,hc⟩
    have h1':S.w.cell? ⟨b,off,none⟩=some v:=h1
    have hagg':u.agg=false:=by simpa using hagg
    simp [Instr.loadAt,Instr.sureAddr,loadVar,zmj hty,hag,hagg',h1']
theorem InvOf.partAt (h:InvOf P c σ a S) {o:Operand} {p:Pl} (hp:(look σ o).place=some p) {k:Md} (hm:zaz p.π p.t p.m=some k) :
    ∃ (u:Ty) (y:u.den) (q:List Nat) (off b:Nat) (cur:Array Value) (e:TypeId),getP p.π p.t p.x=some ⟨u,y⟩∧locP p.π p.t=some (some q,off)∧hvB (S.hv (p.r,q))=some b∧S.own b=some (p.r,q)∧S.w.heap[b]? = some (.cells cur e (0,0)) ∧
      a.eval o=.pointer (some ⟨b,off,none⟩)∧Rel P u S k (p.r,p.π) y (blk S.w b off):=by
  obtain ⟨h1,_,_,h2,q,off,b,h3,h4,h5⟩:=h.place hp
  obtain ⟨u,y,l,cs',h6,h7,h8,h9⟩:=Rel.at (h.slot h1).1 hm h2
  rw [h3] at h7
  cases h7
  obtain ⟨b',h10,h11,h12,cur,e,h13⟩:=h9
  rw [zbb] at h8 h10 h11
  rw [h4] at h10
  cases h10
  exact ⟨u,y,q,off,b,cur,e,h6,h3,h4,h11,h13,h5,by rw [← h12]; exact h8⟩
theorem InvOf.deref_sound (h:InvOf P c σ a S) (hT:TabOK P T) {t:TypeId} {i:TyI} {u:Ty} (ht:tl T t=some (i,u)) {o:Operand} {p:Pl} (hp:(look σ o).place=some p) {e:Ent} (hx:p.deref u=some e) :
    ∃ v,(Instr.loadAt t (a.eval o)).run P S.w=.ok v S.w∧zgj P S σ e v:=by
  unfold Pl.deref at hx
  split at hx
  case h_2=>cases hx
  rename_i k y hm hg
  split at hx
  case isFalse=>cases hx
  rename_i hy
  obtain ⟨u',y',q,off,b,cur,e',h1,h2,h3,h4,h5,h6,h7⟩:=h.partAt hp hm
  rw [hg] at h1
  cases h1
  simp only at hy
  subst hy
  obtain ⟨v,h8,h9,h10⟩:=zox hT ht h7
  obtain ⟨hr,hc,hπ,hok,_⟩:=h.place hp
  refine ⟨v,by rw [h6]; exact h8,?_⟩
  split at hx
  · rename_i hno
    cases hx
    exact ⟨zin hno,_,zim h9⟩
  · cases u' with
    | slice w =>
      cases k <;> simp only at hx <;> first | (cases hx; done) | skip
      cases hx
      have hv:=h9.1.2.2.1
      have:v=S.hv (p.r,p.π):=by simpa [zab,Ty.agg] using hv
      rw [hc,this]
      exact h.viewTo hr hok
    | ptr w =>
      cases k <;> simp only at hx <;> first | (cases hx; done) | skip
      cases hx
      obtain ⟨hv,g,cur',e1,h11,h12,h13,_⟩:=h9.1
      have hv':v=S.hv (p.r,p.π):=by simpa [zab,Ty.agg] using hv
      rw [hc,hv',h11]
      refine h.refTo (q:=p.π) hr ?_ (zfz hg hok trivial) (by rw [h11]; rfl)
      rw [zdm hg h2 (show locP [0] (.ptr _)=some (some [],0) from by simp [locP])]
      simp [addL]
    | _=>cases k <;> simp at hx
theorem InvOf.load_sound (h:InvOf P c σ a S) (hT:TabOK P T) {t:TypeId} {o:Operand} {e:Ent} (hx:loadE T t (look σ o)=some e) :
    ∃ v,(Instr.loadAt t (a.eval o)).run P S.w=.ok v S.w∧zgj P S σ e v:=by
  unfold loadE at hx
  split at hx
  case h_2=>cases hx
  rename_i i u ht
  split at hx
  · rename_i p hp
    exact h.deref_sound hT ht hp hx
  · split at hx
    case h_2=>cases hx
    rename_i e' hro
    split at hx
    case isFalse=>cases hx
    rename_i he
    cases hx
    obtain ⟨h1,b,off,h2,h3,p,h4⟩:=h.ro hro
    subst he
    obtain ⟨v,h5,h6,_⟩:=zox hT ht h4
    exact ⟨v,by rw [h2]; exact h5,zin (by rcases h1 with h1 | h1 <;> rw [h1] <;> rfl),p,zim h6⟩
theorem getP_ro {ρ:List Nat} {t:Ty} {x:t.den} {u:Ty} {y:u.den} {off:Nat} {M:Md} (hM:M=.sh∨M=.bw) {p:Place} {cs:Cs}:getP ρ t x=some ⟨u,y⟩→locP ρ t=some (none,off)→okP S ρ t p→Rel P t S M p x cs→off+u.size≤t.size∧∃ p',Rel P u S M p' y (fun i=>cs (off+i)):=by
  have hl:M.l=M∧M.r=M:=by rcases hM with rfl | rfl <;> exact ⟨rfl,rfl⟩
  induction ρ generalizing t x off p cs with
  | nil =>
    intro hg hlo ho h
    simp only [getP,Option.some.injEq] at hg
    cases hg
    simp only [locP,Option.some.injEq,Prod.mk.injEq,true_and] at hlo
    subst hlo
    exact ⟨by omega,p,by simpa using h⟩
  | cons i ρ ih =>
    intro hg hlo ho h
    cases t with
    | pair A B =>
      match i with
      | 0 =>
        simp only [getP] at hg
        simp only [locP,Option.map_eq_some_iff] at hlo
        obtain ⟨⟨q',o'⟩,h1,h2⟩:=hlo
        simp only [Prod.mk.injEq,Option.map_eq_none_iff] at h2
        obtain ⟨rfl,rfl⟩:=h2
        have ha:=h.1
        rw [hl.1] at ha
        obtain ⟨h3,p',h4⟩:=ih hg h1 ho ha
        exact ⟨by simp only [Ty.size]; omega,p',h4⟩
      | 1 =>
        simp only [getP] at hg
        simp only [locP,Option.map_eq_some_iff] at hlo
        obtain ⟨⟨q',o'⟩,h1,h2⟩:=hlo
        cases q' with
        | some q'=>simp at h2
        | none =>
          simp only [Prod.mk.injEq,true_and] at h2
          subst h2
          have hb:=h.2
          rw [hl.2] at hb
          obtain ⟨h3,p',h4⟩:=ih hg h1 ho hb
          exact ⟨by simp only [Ty.size]; omega,p',by simpa only [Nat.add_assoc] using h4⟩
      | i+2=>simp [getP] at hg
    | arr n t =>
      rw [zhk] at hg
      rw [zcw] at hlo
      rw [zdd] at ho
      simp only [Option.map_eq_some_iff] at hlo
      obtain ⟨⟨q',o'⟩,h1,h2⟩:=hlo
      cases q' with
      | some q'=>simp at h2
      | none =>
        simp only [Prod.mk.injEq,true_and] at h2
        subst h2
        have hi:i < x.length:=by rw [h.1]; exact ho.1
        rw [zcr hi] at hg
        obtain ⟨h3,p',h4⟩:=ih hg h1 ho.2 (h.2 i hi)
        have hm:(i+1) * t.size≤n * t.size:=Nat.mul_le_mul_right _ ho.1
        rw [Nat.add_mul] at hm
        exact ⟨by simp only [Ty.size]; omega,p',by simpa only [Nat.add_assoc] using h4⟩
    | slice t =>
      rw [zcp] at hlo
      simp only [Option.map_eq_some_iff] at hlo
      obtain ⟨⟨q',o'⟩,h1,h2⟩:=hlo
      cases q' <;> simp at h2
    | ptr t =>
      match i with
      | 0 =>
        simp only [locP,Option.map_eq_some_iff] at hlo
        obtain ⟨⟨q',o'⟩,h1,h2⟩:=hlo
        cases q' <;> simp at h2
      | i+1=>simp [locP] at hlo
    | _=>simp [getP] at hg
theorem blk_shift (w:World) (b o o':Nat):(fun i=>blk w b o (o'+i))=blk w b (o+o'):=funext fun i=>by simp [blk,Nat.add_assoc]
theorem InvOf.field_sound (h:InvOf P c σ a S) (hT:TabOK P T) {s f:Nat} {o:Operand} {e:Ent} (hx:zgx T s f (look σ o)=some e) :
    ∃ v,(Instr.fieldAt s (a.eval o) f).run P S.w=.ok v S.w∧zgj P S σ e v:=by
  unfold zgx at hx
  split at hx
  case h_2=>cases hx
  rename_i i ts ht
  split at hx
  case h_2=>cases hx
  rename_i offs hk
  split at hx
  case h_2=>cases hx
  rename_i off sz ρ hoff hρ
  split at hx
  · cases hx
  rename_i hsz
  obtain ⟨hty,hsize,hagg,hkind⟩:=hT.kind ht
  rw [hk] at hkind
  obtain ⟨fs,hfl,hoffs⟩:=zdf hkind
  have run:∀ b o,(Instr.fieldAt s (.pointer (some ⟨b,o,none⟩)) f).run P S.w=.ok (.pointer (some ⟨b,o+off,none⟩)) S.w:=fun b o=>znc hty hk hoff hsz b o S.w
  split at hx
  · rename_i p hp
    split at hx
    case h_2=>cases hx
    rename_i y hg
    split at hx
    case isFalse=>cases hx
    rename_i hy
    cases hx
    obtain ⟨h1,h2,h3,h4,q,off',b,h5,h6,h7⟩:=h.place hp
    obtain ⟨yt,yx⟩:=y
    simp only at hy
    subst hy
    obtain ⟨u,z,o2,h8,h9,h10,h11,h12⟩:=zep (S:=S) (o0:=0) (x:=yx) (p:=pa (p.r,[]) p.π) hfl hρ
    rw [← hoffs,hoff,Nat.zero_add] at h12
    cases h12
    refine ⟨_,by rw [h7]; exact run b off',?_⟩
    rw [h2]
    refine h.refTo (q:=q) h1 ?_ (zfz hg h4 h11) h6
    rw [zdm hg h5 h10]
    rfl
  · split at hx
    case h_2=>cases hx
    rename_i e' hro
    split at hx
    case isFalse=>cases hx
    rename_i he
    split at hx
    case h_2=>cases hx
    rename_i y hg
    cases hx
    obtain ⟨hm,b,off',h7,hG,p,h8⟩:=h.ro hro
    subst he
    obtain ⟨u,z,o2,h9,h10,h11,h12,h13⟩:=zep (S:=S) (o0:=0) (x:=e'.x) (p:=p) hfl hρ
    rw [hg] at h10
    cases h10
    rw [← hoffs,hoff,Nat.zero_add] at h13
    cases h13
    obtain ⟨h14,p',h15⟩:=getP_ro hm hg h11 h12 h8
    refine ⟨_,by rw [h7]; exact run b off',by rcases hm with hm | hm <;> rw [hm] <;> rfl,p',?_,fun h=>by cases h⟩
    have hc:zab (.ptr u) (.pointer (some ⟨b,off'+off,none⟩)) 0=some (.pointer (some ⟨b,off'+off,none⟩)):=by simp [zab,Ty.agg]
    rw [blk_shift] at h15
    have hres:∃ b0 o0,zab (.ptr u) (.pointer (some ⟨b,off'+off,none⟩)) 0=some (.pointer (some ⟨b0,o0,none⟩))∧(u.size ≠ 0→S.G e'.m b0)∧Rel P u S e'.m (px p' 0) z (blk S.w b0 o0):=⟨b,_,hc,fun hne=>hG (by omega),by
      rcases hm with hm | hm
      · rw [hm] at h15 ⊢; exact h15.fut (.inl rfl) ((Fut2.refl S).sh _) fun _ _=>rfl
      · rw [hm] at h15 ⊢; exact h15.fut (.inr rfl) ((Fut2.refl S).sh _) fun _ _=>rfl⟩
    rcases hm with hm | hm <;> rw [hm] at hres ⊢ <;> exact hres
end
end Go.X
set_option linter.unusedSimpArgs false
set_option linter.unusedVariables false
namespace Go.X
open Go Go.RowKit
section
variable {P:Program} {c:Ctx} {σ:Env} {a:Act} {S:St} {T:Tab}
theorem bnd2 {i:Int} {n:Nat} (h:(decide (0≤i) && decide (i < (n:Int)))=true):0≤i∧i < n∧i.toNat < n:=by
  simp only [Bool.and_eq_true,decide_eq_true_eq] at h
  exact ⟨h.1,h.2,by omega⟩
theorem InvOf.index_sound (h:InvOf P c σ a S) (hT:TabOK P T) {t:TypeId} {o ix:Operand} {e:Ent} {ob:Bool} (hx:indexE T t (look σ o) (look σ ix)=some (ob,e)) (hob:ob=true) :
    ∃ v,(Instr.indexAt t (a.eval o) (a.eval ix)).run P S.w=.ok v S.w∧zgj P S σ e v:=by
  unfold indexE at hx
  split at hx
  case h_3=>cases hx
  · rename_i i u k n ht hn
    obtain ⟨hty,hsz,hag,hkind⟩:=hT.kind ht
    obtain ⟨e1,i1,hk,hte,hpos⟩:=zca hkind
    obtain ⟨hty1,hsz1,_,_⟩:=hT.kind hte
    obtain ⟨hev,_⟩:=h.ival hn
    rw [hev]
    split at hx
    · rename_i p hp
      split at hx
      case h_2=>cases hx
      rename_i e0 k0 u' xs hm hg
      split at hx
      case isFalse=>cases hx
      rename_i hu
      subst hu
      simp only [Option.some.injEq,Prod.mk.injEq] at hx
      obtain ⟨rfl,rfl⟩:=hx
      obtain ⟨h0,h1,h2⟩:=bnd2 hob
      obtain ⟨hr,hc,hok,hv⟩:=h.splace hp
      obtain ⟨u2,y2,l,cs',h5,h6,h7,h8⟩:=Rel.at (h.slot hr).1 hm hok
      rw [hg] at h5
      cases h5
      rw [zbb] at h7
      obtain ⟨_,_,_,hcase⟩:=h7
      rcases hcase with ⟨_,h9⟩ | ⟨g,cap,cur,h9,h10,h11,_⟩
      · subst h9; simp at h2
      · refine ⟨_,by rw [hv,h9]; exact zhr hty hk hty1 g 0 xs.length cap k n h0 h1 S.w,?_⟩
        rw [hc]
        refine h.refTo (q:=p.π) hr ?_ (zfz hg hok ?_) (by rw [h9]; rfl)
        · rw [zdm hg h6 (show locP [n.toNat] (.slice u')=some (some [],n.toNat * u'.size) from by rw [zcp]; simp [locP])]
          simp [addL,hsz1]
        · rw [zdr,zbb]
          exact ⟨⟨g,_,_,h9,h2⟩,trivial⟩
    · have key:∀ {M:Md} {xs:List u.den},M=.sh∨M=.bw→(look σ o).val (.slice u)=some (M,xs)→(decide (0≤n) && decide (n < (xs.length:Int)))=true→∃ v,(Instr.indexAt t (a.eval o) (.int k n)).run P S.w=.ok v S.w∧zgj P S σ (.v (.ptr u) M (xs.getD n.toNat u.dflt)) v:=by
        intro M xs hM hval hb
        obtain ⟨h0,h1,h2⟩:=bnd2 hb
        obtain ⟨p,hs⟩:=h.val hval
        obtain ⟨_,_,hs3⟩:=hs.1
        have hs':∃ a' len cap,zab (.slice u) (a.eval o) 0=some (.slice a' len cap)∧len=xs.length∧len≤cap∧((xs=[]∧cap=0)∨∃ b o',a'=some ⟨b,o',none⟩∧(xs ≠ []→S.G M b)∧∀ (i:Nat) (h:i < xs.length),Rel P u S M (px p i) xs[i] (blk S.w b (o'+i * u.size))):=by rcases hM with rfl | rfl <;> exact hs3
        obtain ⟨a',len,cap,h3,h4,h5,h6⟩:=hs'
        have hv:a.eval o=.slice a' len cap:=by simpa [zab,Ty.agg] using h3
        rcases h6 with ⟨_,h6⟩ | ⟨b,o',rfl,hG,h7⟩
        · omega
        · subst h4
          refine ⟨_,by rw [hv]; exact zhr hty hk hty1 b o' _ cap k n h0 h1 S.w,by rcases hM with rfl | rfl <;> rfl,p,?_,fun h=>by cases h⟩
          have hc:zab (.ptr u) (.pointer (some ⟨b,o'+n.toNat * i1.size,none⟩)) 0=some (.pointer (some ⟨b,o'+n.toNat * i1.size,none⟩)):=by simp [zab,Ty.agg]
          have hne:xs ≠ []:=by rintro rfl; simp at h2
          have h8:=h7 n.toNat h2
          rw [← hsz1,← zcr h2 u.dflt] at h8
          have hres:∃ b0 o0,zab (.ptr u) (.pointer (some ⟨b,o'+n.toNat * i1.size,none⟩)) 0=some (.pointer (some ⟨b0,o0,none⟩))∧(u.size ≠ 0→S.G M b0)∧Rel P u S M (px p 0) (xs.getD n.toNat u.dflt) (blk S.w b0 o0):=⟨b,_,hc,fun _=>hG hne,h8.fut hM ((Fut2.refl S).sh _) fun _ _=>rfl⟩
          rcases hM with rfl | rfl <;> exact hres
      split at hx
      · rename_i xs hval
        simp only [Option.some.injEq,Prod.mk.injEq] at hx
        obtain ⟨rfl,rfl⟩:=hx
        exact key (.inl rfl) hval hob
      · rename_i xs hval
        simp only [Option.some.injEq,Prod.mk.injEq] at hx
        obtain ⟨rfl,rfl⟩:=hx
        exact key (.inr rfl) hval hob
      · cases hx
  · rename_i i m u k n ht hn
    obtain ⟨hty,hsz,hag,hkind⟩:=hT.kind ht
    obtain ⟨e1,i1,hk,hte⟩:=znv hkind
    obtain ⟨hty1,hsz1,_,_⟩:=hT.kind hte
    obtain ⟨hev,_⟩:=h.ival hn
    rw [hev]
    split at hx
    · rename_i p hp
      split at hx
      case h_2=>cases hx
      rename_i y hg
      split at hx
      case isFalse=>cases hx
      rename_i hy
      simp only [Option.some.injEq,Prod.mk.injEq] at hx
      obtain ⟨rfl,rfl⟩:=hx
      obtain ⟨h0,h1,h2⟩:=bnd2 hob
      obtain ⟨hr,hc,hπ,hok,q,off,b,h3,h4,h5⟩:=h.place hp
      obtain ⟨yt,yx⟩:=y
      simp only at hy
      subst hy
      refine ⟨_,by rw [h5]; exact zgo hty hk hty1 b off k n h0 h1 S.w,?_⟩
      rw [hc]
      refine h.refTo (q:=q) hr ?_ (zfz hg hok ?_) h4
      · rw [zdm hg h3 (show locP [n.toNat] (.arr m u)=some (none,n.toNat * u.size) from by rw [zcw]; simp [locP])]
        simp [addL,hsz1]
      · rw [zdd]; exact ⟨h2,trivial⟩
    · split at hx
      case h_2=>cases hx
      rename_i m' u' M xs hro
      split at hx
      case isFalse=>cases hx
      rename_i hmu
      obtain ⟨rfl,rfl⟩:=hmu
      simp only [Option.some.injEq,Prod.mk.injEq] at hx
      obtain ⟨rfl,rfl⟩:=hx
      obtain ⟨h0,h1,h2⟩:=bnd2 hob
      obtain ⟨hM,b,off,h3,hG,p,h4⟩:=h.ro hro
      simp only at hM h4 hG
      have hlen:n.toNat < xs.length:=by rw [h4.1]; exact h2
      refine ⟨_,by rw [h3]; exact zgo hty hk hty1 b off k n h0 h1 S.w,by rcases hM with rfl | rfl <;> rfl,p,?_,fun h=>by cases h⟩
      have hc:zab (.ptr u') (.pointer (some ⟨b,off+n.toNat * i1.size,none⟩)) 0=some (.pointer (some ⟨b,off+n.toNat * i1.size,none⟩)):=by simp [zab,Ty.agg]
      have h8:=h4.2 n.toNat hlen
      rw [← hsz1,← zcr hlen u'.dflt,blk_shift] at h8
      have hres:∃ b0 o0,zab (.ptr u') (.pointer (some ⟨b,off+n.toNat * i1.size,none⟩)) 0=some (.pointer (some ⟨b0,o0,none⟩))∧(u'.size ≠ 0→S.G M b0)∧Rel P u' S M (px p 0) (xs.getD n.toNat u'.dflt) (blk S.w b0 o0) :=
        ⟨b,_,hc,fun hne=>hG (by simp only [Ty.size]; exact Nat.mul_ne_zero (by omega) hne),h8.fut hM ((Fut2.refl S).sh _) fun _ _=>rfl⟩
      rcases hM with rfl | rfl <;> exact hres
theorem zkf {u:Ty} {m:Md} {p:Place} {xs:List u.den} {v:Value} (h:SR P (.slice u) S m p xs v) (hm:m ≠ .dead):∃ ad cap,v=.slice ad xs.length cap∧xs.length≤maxL:=by
  obtain ⟨h1,_,h3⟩:=h.1
  have hc:zab (.slice u) v 0=some v:=by simp [zab,Ty.agg]
  cases m with
  | dead=>exact absurd rfl hm
  | pr=>exact h3.elim
  | own e k =>
    obtain ⟨h3,h4⟩:=h3
    rw [hc] at h3
    rcases h4 with ⟨h4,h5⟩ | ⟨g,cap,cur,h4,_⟩
    · subst h5; exact ⟨none,0,by rw [Option.some.inj h3,h4]; rfl,h1⟩
    · exact ⟨_,cap,by rw [Option.some.inj h3,h4],h1⟩
  | sh =>
    obtain ⟨a',len,cap,h3,h4,_⟩:=h3
    rw [hc] at h3
    exact ⟨a',cap,by rw [Option.some.inj h3,h4],h1⟩
  | bw =>
    obtain ⟨a',len,cap,h3,h4,_⟩:=h3
    rw [hc] at h3
    exact ⟨a',cap,by rw [Option.some.inj h3,h4],h1⟩
theorem len_wrap {n:Nat} (h:n≤maxL):IntKind.i64.wrap (n:Int)=n:=wrap_in _ (by unfold maxL at h; omega)
theorem InvOf.len_sound (h:InvOf P c σ a S) (hT:TabOK P T) {t rt:TypeId} {o:Operand} {e:Ent} (hx:lenE T t (look σ o)=some e) :
    ∃ v,(Builtin.len_ #[t] rt #[a.eval o]).run P S.w=.ok v S.w∧zgj P S σ e v:=by
  unfold lenE at hx
  split at hx
  · rename_i i u ht
    obtain ⟨hty,_,_,hkind⟩:=hT.kind ht
    obtain ⟨j,d,_,hd,_,_,_,hk⟩:=zat hty
    obtain ⟨e1,i1,hk1,_⟩:=zca hkind
    have:=zdc (hk.trans (congrArg some hk1))
    subst this
    split at hx
    case h_2=>cases hx
    rename_i m xs hv
    split at hx
    · cases hx
    rename_i hm
    cases hx
    obtain ⟨p,hs⟩:=h.val hv
    obtain ⟨ad,cap,hv',hl⟩:=zkf hs hm
    refine ⟨.int .i64 xs.length,?_,rfl,(0,[]),SR.of_int' (len_wrap hl)⟩
    rw [hv']
    simp [Builtin.len_,run_underlying hd,goInt]
  · rename_i i ht
    obtain ⟨hty,_,_,hkind⟩:=hT.kind ht
    obtain ⟨j,d,_,hd,_,_,_,hk⟩:=zat hty
    have:=zjf (hk.trans (congrArg some (zjr hkind)))
    subst this
    split at hx
    case h_2=>cases hx
    rename_i m x hv
    split at hx
    · cases hx
    rename_i hm
    cases hx
    obtain ⟨p,hs⟩:=h.val hv
    obtain ⟨s,hs1,hs2,hs3⟩:=hs.str_inv hm
    have hlen:s.size=(x:List Int).length:=by rw [← hs2,List.length_map,Array.length_toList]; rfl
    refine ⟨.int .i64 s.size,?_,rfl,(0,[]),by rw [hlen]; exact SR.of_int' (len_wrap hs3)⟩
    rw [hs1]
    simp [Builtin.len_,run_underlying hd,goInt]
  · cases hx
theorem zgp {S:St} {k:IntKind} {m:Md} {p:Place} {n:Int} {cs:Cs} (hm:m=.sh∨m=.bw) (h:Rel P (.int k) S m p n cs):cs 0=some (.int k n):=by
  rcases hm with rfl | rfl <;> exact h.1
theorem eqTV_list {S:St} {m m':Md} (hm:m=.sh∨m=.bw) (hm':m'=.sh∨m'=.bw):∀ {n:Nat} {a b:Ty} {x:a.den} {y:b.den} {r:Bool} {fs:List Ty} {o0:Nat} {p p':Place} {cs cs':Cs},eqTV n a b x y=some r→flds n a=some fs →
    Rel P a S m p x (fun i=>cs (o0+i))→Rel P b S m' p' y (fun i=>cs' (o0+i)) →
    ∃ us:List (IntKind × Int × Int),us.length=n∧(us.all fun u=>decide (u.2.1=u.2.2))=r∧∀ (i:Nat) (o:Nat × Nat) (u:IntKind × Int × Int),(zde o0 fs)[i]? = some o→us[i]? = some u→cs o.1=some (.int u.1 u.2.1)∧cs' o.1=some (.int u.1 u.2.2):=by
  have hl:m.l=m∧m.r=m:=by rcases hm with rfl | rfl <;> exact ⟨rfl,rfl⟩
  have hl':m'.l=m'∧m'.r=m':=by rcases hm' with rfl | rfl <;> exact ⟨rfl,rfl⟩
  intro n
  induction n using Nat.strongRecOn with
  | ind n ih =>
  intro a b x y r fs o0 p p' cs cs' h hf hx hy
  unfold eqTV at h
  split at h
  · rename_i k k' x y
    split at h
    case isFalse=>cases h
    rename_i hk
    subst hk
    cases h
    simp only [flds,Option.some.injEq] at hf
    subst hf
    have h1:=zgp (by rw [hl.1]; exact hm) hx.1
    have h2:=zgp (by rw [hl'.1]; exact hm') hy.1
    refine ⟨[(k,x.1,y.1)],rfl,by simp,fun i o u ho hu=>?_⟩
    cases i with
    | zero=>cases ho; cases hu; exact ⟨h1,h2⟩
    | succ i=>simp at hu
  · rename_i k l k' l' x y
    split at h
    case isFalse=>cases h
    rename_i hk
    obtain ⟨rfl,rfl⟩:=hk
    cases h
    simp only [flds,Option.some.injEq] at hf
    subst hf
    have h1:=zgp (by rw [hl.1]; exact hm) hx.1
    have h2:=zgp (by rw [hl'.1]; exact hm') hy.1
    have h3:=zgp (by rw [hl.2]; exact hm) hx.2
    have h4:=zgp (by rw [hl'.2]; exact hm') hy.2
    refine ⟨[(k,x.1,y.1),(l,x.2,y.2)],rfl,by simp,fun i o u ho hu=>?_⟩
    match i with
    | 0=>cases ho; cases hu; exact ⟨h1,h2⟩
    | 1=>cases ho; cases hu; exact ⟨h3,h4⟩
    | i+2=>simp at hu
  · rename_i n k b k' b' x y
    split at h
    case isFalse=>cases h
    rename_i hk
    subst hk
    simp only [Option.map_eq_some_iff] at h
    obtain ⟨r',h,rfl⟩:=h
    simp only [flds,Option.map_eq_some_iff] at hf
    obtain ⟨fs',hf,rfl⟩:=hf
    have h1:=zgp (by rw [hl.1]; exact hm) hx.1
    have h2:=zgp (by rw [hl'.1]; exact hm') hy.1
    have hx2:=hx.2
    have hy2:=hy.2
    rw [hl.2] at hx2
    rw [hl'.2] at hy2
    obtain ⟨us,h3,h4,h5⟩:=ih (n+2) (by omega) (o0:=o0+1) (cs:=cs) (cs':=cs') h hf (hx2.cong fun i _=>by show cs (o0+1+i)=cs (o0+(1+i)); rw [Nat.add_assoc]) (hy2.cong fun i _=>by show cs' (o0+1+i)=cs' (o0+(1+i)); rw [Nat.add_assoc])
    refine ⟨(k,x.1,y.1)::us,by simp [h3],by simp [h4],fun i o u ho hu=>?_⟩
    cases i with
    | zero=>cases ho; cases hu; exact ⟨h1,h2⟩
    | succ i=>exact h5 i o u (by simpa [zde,Ty.size] using ho) (by simpa using hu)
  · cases h
theorem eqTV_agg {n:Nat} {a b:Ty} {x:a.den} {y:b.den} {r:Bool} (h:eqTV n a b x y=some r):b.agg=true:=by
  unfold eqTV at h
  split at h
  · rfl
  · rfl
  · rfl
  · cases h
theorem run_eqS {S:St} {op:BinOp} {t:TypeId} {x y:TV} {m m':Md} {p p':Place} {u v:Value} {r:Bool} {tt:Tab} (hT:TabOK P tt) {i:TyI} (ht:tl tt t=some (i,x.t)) (hx:SR P x.t S m p x.x u) (hy:SR P y.t S m' p' y.x v)
    (h:eqS i op x.t y.t m m' x.x y.x=some r) (a b:Operand) (w:World):(do eqGuard op t a b u v; binOp op t u v:Sem Value).run P w=.ok (.bool r) w:=by
  unfold eqS at h
  split at h
  case h_2=>cases h
  rename_i op' offs hk
  split at h
  case isFalse=>cases h
  rename_i hc
  obtain ⟨he,hm,hm'⟩:=hc
  obtain ⟨hty,hsize,hagg,hkind⟩:=hT.kind ht
  rw [hk] at hkind
  obtain ⟨fs,hfl,hoffs⟩:=zdf hkind
  have hts:x.t.agg=true:=by rw [← hagg]; unfold TyI.agg; rw [hk]
  have hts':y.t.agg=true:=eqTV_agg h
  obtain ⟨cs,rfl,_⟩:=hx.2 hts
  obtain ⟨cs',rfl,_⟩:=hy.2 hts'
  have hxr:Rel P x.t S m p x.x (fun i=>(fun j=>cs[j]?) (0+i)):=hx.1.cong fun i _=>by unfold zab; rw [hts,Nat.zero_add]; rfl
  have hyr:Rel P y.t S m' p' y.x (fun i=>(fun j=>cs'[j]?) (0+i)):=hy.1.cong fun i _=>by unfold zab; rw [hts',Nat.zero_add]; rfl
  obtain ⟨us,h1,h2,h3⟩:=eqTV_list hm hm' (o0:=0) h hfl hxr hyr
  rw [← h2]
  exact run_eql_ints hty he hk cs cs' us h1.symm (fun i o u ho hu=>h3 i o u (by rw [← hoffs]; exact ho) hu) a b w
theorem sub_val {cs:Array Value} {u:Ty} {M:Md} (hM:M=.sh∨M=.bw) {p:Place} {y:u.den} {off:Nat} (h:Rel P u S M p y (fun i=>cs[off+i]?)) {tot:Nat} (hfit:off+u.size≤tot) (hcs:cs.size=tot) :
    ∃ v,(u.agg=false→cs[off]? = some v)∧SR P u S M p y (if u.agg then .agg (cs.extract off (off+u.size)) else v):=by
  cases hag:u.agg with
  | true =>
    refine ⟨.nilFunc,(fun h=>by cases h),?_,fun _=>⟨_,rfl,?_⟩⟩
    · refine h.cong fun i hi=>?_
      unfold zab
      rw [hag]
      show (cs.extract off (off+u.size))[i]? = _
      rw [Array.getElem?_extract_of_lt (by omega),Array.getElem?_eq_getElem (by omega)]
    · rw [Array.size_extract]; omega
  | false =>
    have h1:u.size=1:=by cases u <;> first | rfl | cases hag
    obtain ⟨v,h2,_⟩:=h.cells 0 (by omega)
    refine ⟨v,fun _=>h2,?_,fun h=>by rw [hag] at h; cases h⟩
    refine h.cong fun i hi=>?_
    have:i=0:=by omega
    subst this
    unfold zab
    rw [hag]
    exact h2.symm
theorem InvOf.fieldV_sound (h:InvOf P c σ a S) (hT:TabOK P T) {s f:Nat} {o:Operand} {e:Ent} (hx:fieldV T s f (look σ o)=some e) :
    ∃ v,(Instr.field s (a.eval o) f).run P S.w=.ok v S.w∧zgj P S σ e v:=by
  unfold fieldV at hx
  split at hx
  case h_2=>cases hx
  rename_i i ts ht
  split at hx
  case h_2=>cases hx
  rename_i offs hk
  split at hx
  case h_2=>cases hx
  rename_i off sz ρ g hoff hρ hfa
  obtain ⟨hty,hsize,hagg,hkind⟩:=hT.kind ht
  rw [hk] at hkind
  obtain ⟨fs,hfl,hoffs⟩:=zdf hkind
  split at hx
  case h_2=>cases hx
  rename_i m x hv
  split at hx
  case isFalse=>cases hx
  rename_i hm
  split at hx
  case h_2=>cases hx
  rename_i y hg
  split at hx
  case isFalse=>cases hx
  rename_i hyg
  cases hx
  obtain ⟨p,hsr⟩:=h.val hv
  have hts:ts.agg=true:=by rw [← hagg]; unfold TyI.agg; rw [hk]
  obtain ⟨cs,hcs,hcsz⟩:=hsr.2 hts
  obtain ⟨u,z,o2,h9,h10,h11,h12,h13⟩:=zep (S:=S) (o0:=0) (x:=x) (p:=p) hfl hρ
  rw [hg] at h10
  cases h10
  rw [← hoffs,hoff,Nat.zero_add] at h13
  cases h13
  have hrel:Rel P ts S m p x (fun i=>cs[i]?):=by
    have:=hsr.1
    rw [hcs] at this
    refine this.cong fun i _=>?_
    unfold zab
    rw [hts]
    rfl
  obtain ⟨h14,p',h15⟩:=getP_ro hm hg h11 h12 hrel
  obtain ⟨v,h16,h17⟩:=sub_val hm h15 h14 hcsz
  subst hyg
  exact ⟨_,by rw [hcs]; exact run_field hty hk hoff hfa cs h16 S.w,by rcases hm with rfl | rfl <;> rfl,p',h17⟩
theorem InvOf.indexV_sound (h:InvOf P c σ a S) (hT:TabOK P T) {t:TypeId} {o ix:Operand} {e:Ent} {ob:Bool} (hx:indexV T t (look σ o) (look σ ix)=some (ob,e)) (hob:ob=true) :
    ∃ v,(Instr.index t (a.eval o) (a.eval ix)).run P S.w=.ok v S.w∧zgj P S σ e v:=by
  unfold indexV at hx
  split at hx
  case h_2=>cases hx
  rename_i i0 n u k i ht hn
  split at hx
  case h_2=>cases hx
  rename_i m xs hv
  split at hx
  case isFalse=>cases hx
  rename_i hm
  simp only [Option.some.injEq,Prod.mk.injEq] at hx
  obtain ⟨rfl,rfl⟩:=hx
  obtain ⟨h0,h1,h2⟩:=bnd2 hob
  obtain ⟨hev,_⟩:=h.ival hn
  obtain ⟨hty,hsize,hagg,hkind⟩:=hT.kind ht
  obtain ⟨e1,i1,hk,hte⟩:=znv hkind
  obtain ⟨hty1,hsz1,hag1,_⟩:=hT.kind hte
  obtain ⟨p,hsr⟩:=h.val hv
  obtain ⟨cs,hcs,hcsz⟩:=hsr.2 rfl
  have hrel:Rel P (.arr n u) S m p xs (fun i=>cs[i]?):=by
    have:=hsr.1
    rw [hcs] at this
    exact this.cong fun i _=>rfl
  have hlen:i.toNat < xs.length:=by rw [hrel.1]; exact h2
  have h8:=hrel.2 i.toNat hlen
  rw [← zcr hlen u.dflt] at h8
  have hfit:i.toNat * u.size+u.size≤n * u.size:=by
    have:(i.toNat+1) * u.size≤n * u.size:=Nat.mul_le_mul_right _ h2
    rwa [Nat.add_mul,Nat.one_mul] at this
  obtain ⟨v,h16,h17⟩:=sub_val hm h8 hfit (by rw [hcsz]; rfl)
  rw [← hsz1] at h16 h17
  rw [← hag1] at h16 h17
  exact ⟨_,by rw [hcs,hev]; exact run_index hty hk hty1 k i h0 h1 cs h16 S.w,by rcases hm with rfl | rfl <;> rfl,_,h17⟩
theorem step1_sound (h:InvOf P c σ a S) (hT:TabOK P T) {o:Oper} {e:Ent} {ob:Bool} (hx:zfu T o (look σ)=some (ob,e)) (hob:ob=true) :
    ∃ v,(execOp a.eval o).run P S.w=.ok (.value v) S.w∧zgj P S σ e v:=by
  obtain ⟨dst,op,type,pos,after,guard⟩:=o
  unfold zfu at hx
  simp only at hx
  split at hx
  · rename_i x
    simp only [Option.map_eq_some_iff,Prod.mk.injEq] at hx
    obtain ⟨e',h1,rfl,rfl⟩:=hx
    exact ⟨_,rfl,h.move_sound h1⟩
  · rename_i op t x y t'
    split at hx
    case h_2=>cases hx
    rename_i i1 ta i2 tb ht ht'
    split at hx
    case h_2=>cases hx
    rename_i m u m' v hu hv
    split at hx
    · cases hx
    rename_i hm
    simp only [not_or] at hm
    obtain ⟨p,hsu⟩:=h.val hu
    obtain ⟨p',hsv⟩:=h.val hv
    split at hx
    · rename_i r hr
      simp only [Option.some.injEq,Prod.mk.injEq] at hx
      obtain ⟨rfl,rfl⟩:=hx
      have h2:=run_eqS (S:=S) (x:=⟨ta,u⟩) (y:=⟨tb,v⟩) hT ht hsu hsv hr x y S.w
      refine ⟨.bool r,?_,rfl,(0,[]),?_⟩
      · simp only [execOp,Sem.run_bind,Sem.run_pure] at h2 ⊢
        rw [h2]
        rfl
      · exact ⟨by simp [Rel,zab,Ty.agg],fun h=>by cases h⟩
    simp only [Option.map_eq_some_iff,Prod.mk.injEq] at hx
    obtain ⟨q,h1,rfl,rfl⟩:=hx
    obtain ⟨r,h2,h3⟩:=run_bin2 (S:=S) (x:=⟨ta,u⟩) (y:=⟨tb,v⟩) (z:=q.2) hT ht hsu hsv hm.1 hm.2 h1 hob x y S.w
    refine ⟨r,?_,rfl,(0,[]),h3 _⟩
    simp only [execOp,Sem.run_bind,Sem.run_pure] at h2 ⊢
    rw [h2]
    rfl
  · rename_i op t x
    split at hx
    case h_2=>cases hx
    rename_i i1 ta ht
    split at hx
    case h_2=>cases hx
    rename_i m u hu
    split at hx
    · cases hx
    rename_i hm
    simp only [Option.map_eq_some_iff,Prod.mk.injEq] at hx
    obtain ⟨q,h1,rfl,rfl⟩:=hx
    obtain ⟨p,hsu⟩:=h.val hu
    unfold un1 at h1
    split at h1
    · rename_i b heq
      cases heq
      cases h1
      have:=hsu.bool_inv hm
      exact ⟨_,by simp [execOp,this,Op.unary] <;> rfl,rfl,(0,[]),SR.of_bool _⟩
    · rename_i k n heq
      cases heq
      cases h1
      have:=(hsu.int_inv hm).1
      exact ⟨_,by simp only [execOp,this,Op.unary,Op.intArith,Sem.run_bind,Sem.run_pure,Result.andThen_ok] <;> rfl,rfl,(0,[]),SR.of_int _⟩
    · rename_i k n heq
      cases heq
      cases h1
      have:=(hsu.int_inv hm).1
      exact ⟨_,by simp [execOp,this,Op.unary,Op.intBits] <;> rfl,rfl,(0,[]),SR.of_int _⟩
    · cases h1
  · rename_i s d x
    split at hx
    case h_2=>cases hx
    rename_i i1 k i2 k' ht ht'
    split at hx
    case h_2=>cases hx
    rename_i m n hu
    split at hx
    · cases hx
    rename_i hm
    simp only [Option.some.injEq,Prod.mk.injEq] at hx
    obtain ⟨rfl,rfl⟩:=hx
    obtain ⟨p,hsu⟩:=h.val hu
    have hn:=(hsu.int_inv hm).1
    obtain ⟨hty1,_,_,hk1⟩:=hT.kind ht
    obtain ⟨hty2,_,_,hk2⟩:=hT.kind ht'
    obtain ⟨_,ds,_,hds,_⟩:=zat hty1
    obtain ⟨_,dd,_,hdd,_,_,_,hk'⟩:=zat hty2
    have:=tyK_int (hk'.trans (congrArg some (zjs hk2)))
    subst this
    have hk2':(TypeDesc.int k')=.int (P.intKind d):=by simp [Program.intKind,hdd]
    have hr:=run_convert_int (P:=P) S.w s d k n (by rw [hds]; rfl) (by rw [hdd,hk2'])
    have hkk:P.intKind d=k':=by cases hk2'; rfl
    rw [hkk] at hr
    refine ⟨_,?_,rfl,(0,[]),SR.of_int n⟩
    simp only [execOp,hn,Sem.run_bind,hr,Result.andThen_ok,Sem.run_pure]
  · rename_i s x f
    simp only [Option.map_eq_some_iff,Prod.mk.injEq] at hx
    obtain ⟨e',h1,rfl,rfl⟩:=hx
    obtain ⟨v,h2,h3⟩:=h.field_sound hT h1
    exact ⟨v,by simp only [execOp,Sem.run_bind,h2,Result.andThen_ok,Sem.run_pure],h3⟩
  · rename_i t x i
    obtain ⟨v,h2,h3⟩:=h.index_sound hT hx hob
    exact ⟨v,by simp only [execOp,Sem.run_bind,h2,Result.andThen_ok,Sem.run_pure],h3⟩
  · rename_i s x f
    simp only [Option.map_eq_some_iff,Prod.mk.injEq] at hx
    obtain ⟨e',h1,rfl,rfl⟩:=hx
    obtain ⟨v,h2,h3⟩:=h.fieldV_sound hT h1
    exact ⟨v,by simp only [execOp,Sem.run_bind,h2,Result.andThen_ok,Sem.run_pure],h3⟩
  · rename_i t x i
    obtain ⟨v,h2,h3⟩:=h.indexV_sound hT hx hob
    exact ⟨v,by simp only [execOp,Sem.run_bind,h2,Result.andThen_ok,Sem.run_pure],h3⟩
  · rename_i t x
    simp only [Option.map_eq_some_iff,Prod.mk.injEq] at hx
    obtain ⟨e',h1,rfl,rfl⟩:=hx
    obtain ⟨v,h2,h3⟩:=h.load_sound hT h1
    exact ⟨v,by simp only [execOp,Sem.run_bind,h2,Result.andThen_ok,Sem.run_pure],h3⟩
  · rename_i x t
    simp only [Option.map_eq_some_iff,Prod.mk.injEq] at hx
    obtain ⟨e',h1,rfl,rfl⟩:=hx
    obtain ⟨v,h2,h3⟩:=h.len_sound (rt:=type) hT h1
    exact ⟨v,by simp [execOp,resolve,invoke,builtin,h2],h3⟩
  · rename_i x y ts
    split at hx
    case h_2=>cases hx
    rename_i k u k' v hu hv
    split at hx
    case isFalse=>cases hx
    rename_i hk
    simp only [Option.some.injEq,Prod.mk.injEq] at hx
    obtain ⟨rfl,rfl⟩:=hx
    obtain ⟨hu1,hu2⟩:=h.ival hu
    obtain ⟨hv1,hv2⟩:=h.ival hv
    subst hk
    refine ⟨.int k (bif decide (v < u) then v else u),?_,rfl,(0,[]),SR.of_int' (by cases decide (v < u) <;> simp [hu2,hv2])⟩
    have hb:(bif decide (v < u) then v else u)=if v < u then v else u:=by cases hd:decide (v < u) <;> simp at hd <;> simp [hd] <;> omega
    rw [hb]
    simp [execOp,resolve,invoke,builtin,hu1,hv1,Builtin.min_,Builtin.min2]
  · rename_i x y ts
    split at hx
    case h_2=>cases hx
    rename_i k u k' v hu hv
    split at hx
    case isFalse=>cases hx
    rename_i hk
    simp only [Option.some.injEq,Prod.mk.injEq] at hx
    obtain ⟨rfl,rfl⟩:=hx
    obtain ⟨hu1,hu2⟩:=h.ival hu
    obtain ⟨hv1,hv2⟩:=h.ival hv
    subst hk
    refine ⟨.int k (bif decide (v > u) then v else u),?_,rfl,(0,[]),SR.of_int' (by cases decide (v > u) <;> simp [hu2,hv2])⟩
    have hb:(bif decide (v > u) then v else u)=if v > u then v else u:=by cases hd:decide (v > u) <;> simp at hd <;> simp [hd] <;> omega
    rw [hb]
    simp [execOp,resolve,invoke,builtin,hu1,hv1,Builtin.max_,Builtin.max2]
  · cases hx
end
end Go.X
