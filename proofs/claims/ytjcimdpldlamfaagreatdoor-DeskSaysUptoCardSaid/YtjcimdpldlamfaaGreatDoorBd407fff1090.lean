import Derived.Deep.RegionHeld3
import Derived.OwnWalk
import Derived.Deep.AppendLies
import Derived.Deep.RegionHeldLaw
import Derived.Test.YtjcimdpldlamfaaGreatDoorBd4bbf09d4c0
namespace Go.Proofs.YtjcimdpldlamfaaGreatDoor
structure xP(m:List zg):Prop where
 map:wL m
 near:∀x,x∈m->zL x.f=true/\zL x.t=true/\zL x.v=true
open Classical in
noncomputable def yd(m:List zg):Int:=if 200<m.length then 2 else if xP m then 0 else 5
def ml(l:List zg):List Int:=l.map zg.f++l.map zg.t
section
variable {l m r u:List zg}{x y:zg}{t v:Int}{k:Nat}
theorem io(h:200<l.length):yd l=2:=if_pos h
theorem gA(h:¬200<l.length)(A:xP l):yd l=0:=by unfold yd;rw[if_neg h,if_pos A]
theorem dG(h:¬200<l.length)(A:¬xP l):yd l=5:=by unfold yd;rw[if_neg h,if_neg A]
theorem wI(h:yd l=0):¬200<l.length/\xP l:=by
 by_cases A:200<l.length
 ·rw[io A]at h;simp at h
 by_cases B:xP l
 ·exact⟨A,B⟩
 rw[dG A B]at h;simp at h
theorem xP.nil:xP []:=⟨.nil,λx h=>by simp at h⟩
theorem xP.take(h:xP l)(k:Nat):xP (l.take k):=
 ⟨⟨h.map.1.sublist (List.take_sublist k l),λx hx=>h.map.2 x (List.mem_of_mem_take hx)⟩,λx hx=>h.near x (List.mem_of_mem_take hx)⟩
theorem ue(A:l[k]?=some x):l.take (k+1)=l.take k++[x]:=by rw[List.take_add_one,A];rfl
theorem xP.first(D:l[0]?=some x)(h1:zL x.f=true)(B:zL x.t=true)(h0:zL x.v=true)(C:x.f<x.t):xP (l.take 1):=by
 rw[ue D];have e:∀y,y∈l.take 0++[x]->y=x:=λy A=>by simpa using A
 exact⟨⟨by simp,λy A=>by rw[e y A];exact C⟩,λy A=>by rw[e y A];exact⟨h1,B,h0⟩⟩
theorem xP.next(h:xP (l.take (k+1)))(C:l[k]?=some y)(H:l[k+1]?=some x)(h1:zL x.f=true)(D:zL x.t=true)(h0:zL x.v=true)(E:x.f<x.t)(F:y.t<=x.f)(G:y.t=x.f->y.v≠x.v):xP (l.take (k+2)):=by
 rw[ue H];have B:=h.map;rw[ue C]at B;have I:=B.2 y (by simp);refine⟨h.map.snoc E λz A=>?_,λz A=>?_⟩
 ·rw[ue C]at A
  rcases List.mem_append.1 A with A|A
  ·have:=B.ahead A
   exact⟨by omega,λe=>by omega⟩
  obtain rfl:z=y:=by simpa using A
  exact⟨F,G⟩
 rcases List.mem_append.1 A with A|A
 ·exact h.near z A
 obtain rfl:z=x:=by simpa using A
 exact⟨h1,D,h0⟩
theorem xP.at_(h:xP l)(B:l[k]?=some x):zL x.f=true/\zL x.t=true/\zL x.v=true/\x.f<x.t:=by
 have A:=List.mem_of_getElem? B;exact⟨(h.near x A).1,(h.near x A).2.1,(h.near x A).2.2,h.map.2 x A⟩
theorem xP.gap(h:xP l)(F:l[k]?=some y)(E:l[k+1]?=some x):y.t<=x.f/\(y.t=x.f->y.v≠x.v):=by
 obtain⟨A,B⟩:=List.getElem?_eq_some_iff.1 F;obtain⟨C,D⟩:=List.getElem?_eq_some_iff.1 E;have:=List.pairwise_iff_getElem.1 h.map.1 k (k+1) A C (by omega);rw[B,D]at this;exact this
theorem wL.mem_at:∀{l:List zg},wL l->∀{x:zg},x∈l->∀{t:Int},x.f<=t->t<x.t->xN l t=some x.v
 |[],_,_,hx,_,_,_=>by simp at hx
 |y::l,h,x,hx,t,h1,h2=>by
  rcases List.mem_cons.1 hx with rfl|hx
  ·exact ut ⟨h1,h2⟩
  have h3:=(List.pairwise_cons.1 h.1).1 x hx;rw[xC (by omega)];exact h.tail.mem_at hx h1 h2
theorem wL.gapF(h:wL l)(hx:x∈l):xN l (x.f-1)≠some x.v:=λhc=>by
 obtain⟨y,hy,h1,h2,h3⟩:=rz hc;have hxl:=h.2 x hx;obtain⟨i,hi,rfl⟩:=List.mem_iff_getElem.1 hx;obtain⟨j,hj,rfl⟩:=List.mem_iff_getElem.1 hy;rcases Nat.lt_trichotomy i j with hij|hij|hij
 ·have:=List.pairwise_iff_getElem.1 h.1 i j hi hj hij;omega
 ·subst hij;omega
 have:=List.pairwise_iff_getElem.1 h.1 j i hj hi hij;exact this.2 (by omega) h3
theorem wL.gapT(h:wL l)(hx:x∈l):xN l x.t≠some x.v:=λhc=>by
 obtain⟨y,hy,h1,h2,h3⟩:=rz hc;have hxl:=h.2 x hx;obtain⟨i,hi,rfl⟩:=List.mem_iff_getElem.1 hx;obtain⟨j,hj,rfl⟩:=List.mem_iff_getElem.1 hy;rcases Nat.lt_trichotomy i j with hij|hij|hij
 ·have:=List.pairwise_iff_getElem.1 h.1 i j hi hj hij
  exact this.2 (by omega) h3.symm
 ·subst hij;omega
 have:=List.pairwise_iff_getElem.1 h.1 j i hj hi hij;omega
end
def tS{α:Type}(S:List Int)(fn:Int->α):Prop:=∀t,fn t≠fn (t-1)->t∈S
theorem rH:∀(l:List zg),tS (ml l) (xN l)
 |[]=>λt h=>absurd rfl h
 |x::l=>λt h=>by
  by_cases hx:t=x.f∨t=x.t
  ·rcases hx with rfl|rfl <;> simp[ml]
  have ih:=rH l t;have hm:t∈ml l->t∈ml (x::l):=λk=>by
   simp only[ml,List.map_cons,List.mem_append,List.mem_cons]at k⊢;rcases k with k|k
   ·exact .inl (.inr k)
   exact .inr (.inr k)
  by_cases h1:x.f<=t/\t<x.t
  ·rw[ut h1,ut (by omega)]at h;exact absurd rfl h
  rw[xC h1,xC (by omega)]at h;exact hm (ih h)
theorem nG(l:List zw):tS (ks l) (zE l):=λt hl=>by
 unfold ks
 cases h1:zE l t
 ·cases h0:zE l (t-1)
  ·rw[h1,h0]at hl;exact absurd rfl hl
  exact List.mem_append_right _ (Zd h1 h0)
 cases h0:zE l (t-1)
 ·exact List.mem_append_left _ (Yi h1 h0)
 rw[h1,h0]at hl;exact absurd rfl hl
theorem tS.op{α β γ:Type}{S T:List Int}{f:Int->α}{g:Int->β}(op:α->β->γ)(hf:tS S f)(hg:tS T g):tS (S++T) λt=>op (f t) (g t):=λt h=>by
 by_cases h1:f t=f (t-1)
 ·by_cases h2:g t=g (t-1)
  ·exact absurd (by simp only[h1,h2]) h
  exact List.mem_append_right _ (hg t h2)
 exact List.mem_append_left _ (hf t h1)
def rv(S:List Int):Prop:=∀t,t∈S->zL t=true
section
variable {S T:List Int}{fn:Int->Option Int}{l m u:List zg}
theorem rv.append(h:rv S)(k:rv T):rv (S++T):=λt ht=>(List.mem_append.1 ht).elim (h t) (k t)
theorem xP.ends(h:xP m):rv (ml m):=λt ht=>by
 rcases List.mem_append.1 ht with ht|ht
 ·obtain⟨x,hx,rfl⟩:=List.mem_map.1 ht;exact(h.near x hx).1
 obtain⟨x,hx,rfl⟩:=List.mem_map.1 ht;exact(h.near x hx).2.1
theorem xx.ends{l:List zw}(h:xx l):rv (ks l):=λt ht=>by
 rcases List.mem_append.1 ht with ht|ht
 ·obtain⟨x,hx,rfl⟩:=List.mem_map.1 ht;exact(h.near x hx).1
 obtain⟨x,hx,rfl⟩:=List.mem_map.1 ht;exact(h.near x hx).2
theorem xP.vals(h:xP m){t v:Int}(A:xN m t=some v):zL v=true:=by
 obtain⟨x,B,_,_,rfl⟩:=rz A;exact(h.near x B).2.2
theorem wL.ok(h:wL u)(A:∀t,xN u t=fn t)(E:tS S fn)(F:rv S)(H:∀t v,fn t=some v->zL v=true):xP u:=by
 refine⟨h,λx B=>?_⟩;have C:=h.2 x B;have D:=h.mem_at B (Int.le_refl _) C;have G:=h.mem_at B (show x.f<=x.t-1 by omega) (by omega);refine⟨F _ (E _ ?_),F _ (E _ ?_),H x.f _ (by rw[<-A];exact D)⟩
 ·rw[<-A,<-A,D];exact(h.gapF B).symm
 rw[<-A,<-A,G];exact h.gapT B
end
open Classical in
noncomputable def mc(fn:Int->Option Int)(n:Nat):Int:=if ∃t v,fn t=some v/\zL v=false then 5 else if 200<n then 2 else 0
def tD(fn:Int->Option Int)(er:Int)(out:List zg):Prop:=∃U,wL U/\(∀t,xN U t=fn t)/\er=mc fn U.length/\(er=0->out=U)/\(er≠0->out=[])
section
variable {fn gn:Int->Option Int}{er er':Int}{out out' l m u:List zg}{n:Nat}
theorem kJ(h:∀t v,fn t=some v->zL v=true)(A:200<n):mc fn n=2:=by
 unfold mc;rw[if_neg (λ⟨t,v,h1,h2⟩=>by rw[h t v h1]at h2;simp at h2),if_pos A]
theorem mf(h:∀t v,fn t=some v->zL v=true)(A:¬200<n):mc fn n=0:=by
 unfold mc;rw[if_neg (λ⟨t,v,h1,h2⟩=>by rw[h t v h1]at h2;simp at h2),if_neg A]
theorem Yh(h:mc fn n=0):(∀t v,fn t=some v->zL v=true)/\n<=200:=by
 unfold mc at h
 split at h
 ·simp at h
 rename_i h1
 split at h
 ·simp at h
 refine⟨λt v B=>?_,by omega⟩
 cases A:zL v
 ·exact absurd ⟨t,v,B,A⟩ h1
 rfl
theorem tD.same(h:tD fn er out)(k:tD gn er' out')(e:∀t,fn t=gn t):er=er'/\out=out':=by
 obtain rfl:fn=gn:=funext e;obtain⟨U,B,C,D,E,F⟩:=h;obtain⟨V,G,H,I,J,K⟩:=k;obtain rfl:U=V:=qU B G λt=>by rw[C,H]
 obtain rfl:er=er':=D.trans I.symm;refine⟨rfl,?_⟩
 by_cases A:er=0
 ·rw[E A,J A]
 rw[F A,K A]
theorem tD.good(h:tD fn er out)(h0:er=0):wL out/\(∀t,xN out t=fn t)/\out.length<=200/\∀t v,fn t=some v->zL v=true:=by
 obtain⟨U,B,C,D,E,_⟩:=h;obtain rfl:=E h0;have A:=Yh (D.symm.trans h0);exact⟨B,C,A.2,A.1⟩
theorem tD.mok{S:List Int}(h:tD fn er out)(h0:er=0)(D:tS S fn)(E:rv S):yd out=0:=by
 obtain⟨A,B,F,C⟩:=h.good h0;exact gA (by omega) (A.ok B D E C)
theorem tD.zero(h:tD fn er out)(F:yd m=0)(e:∀t,fn t=xN m t):er=0/\out=m:=by
 obtain⟨U,B,C,D,E,_⟩:=h;obtain⟨H,A⟩:=wI F;obtain rfl:U=m:=qU B A.map λt=>by rw[C,e]
 have:er=0:=by rw[D];exact mf (λt v G=>A.vals (by rw[<-e];exact G)) H
 exact⟨this,E this⟩
theorem tD.two(h:tD fn er out)(C:∀t v,fn t=some v->zL v=true)(h0:er≠0):er=2:=by
 obtain⟨U,D,E,A,_,_⟩:=h
 by_cases B:200<U.length
 ·rw[A,kJ C B]
 rw[A,mf C B]at h0;exact absurd rfl h0
end
def pd(m:List zg)(p:zg)(t:Int):Option Int:=if p.f<=t/\t<p.t then some p.v else xN m t
def XR(m:List zg)(l:List zw)(yes:Bool)(t:Int):Option Int:=if zE l t=yes then xN m t else none
def qM(k x y:Int):Int:=if k=3 then x+y else if k=1 then min x y else max x y
def Od(k:Int):Option Int->Option Int->Option Int
 |some x,some y=>some (qM k x y)
 |some x,none=>some x
 |none,y=>y
def VN(k:Int)(a b:List zg)(t:Int):Option Int:=Od k (xN a t) (xN b t)
def xY(m:List zg)(p:zg)(er:Int)(out:List zg):Prop:=
 if yd m=0 then if zL p.f=true/\zL p.t=true/\zL p.v=true then tD (pd m p) er out else er=5/\out=[] else er=yd m/\out=[]
def sE(m:List zg)(l:List zw)(yes:Bool)(er:Int)(out:List zg):Prop:=
 if yd m=0 then if yw l=0 then tD (XR m l yes) er out else er=yw l/\out=[] else er=yd m/\out=[]
def sC(k:Int)(a b:List zg)(er:Int)(out:List zg):Prop:=
 if yd a=0 then if yd b=0 then if 1<=k/\k<=3 then tD (VN k a b) er out else er=1/\out=[] else er=yd b/\out=[] else er=yd a/\out=[]
def Ta(m:List zg):List zw:=m.map λx=>⟨x.f,x.t⟩
def Yx(m:List zg)(er:Int)(out:List zw):Prop:=er=yd m/\if er=0 then pX (Ta m) out else out=[]
section
variable {m a b c out out':List zg}{p:zg}{l:List zw}{yes:Bool}{k er er' t v:Int}
theorem xY.same(h:xY m p er out)(g:xY m p er' out'):er=er'/\out=out':=by
 unfold xY at h g
 split at h
 ·rename_i h1
  rw[if_pos h1]at g
  split at h
  ·rename_i h2
   rw[if_pos h2]at g;exact h.same g λ_=>rfl
  rename_i h2
  rw[if_neg h2]at g;rw[h.1,h.2,g.1,g.2];exact⟨rfl,rfl⟩
 rename_i h1
 rw[if_neg h1]at g;rw[h.1,h.2,g.1,g.2];exact⟨rfl,rfl⟩
theorem sE.same(h:sE m l yes er out)(g:sE m l yes er' out'):er=er'/\out=out':=by
 unfold sE at h g
 split at h
 ·rename_i h1
  rw[if_pos h1]at g
  split at h
  ·rename_i h2
   rw[if_pos h2]at g;exact h.same g λ_=>rfl
  rename_i h2
  rw[if_neg h2]at g;rw[h.1,h.2,g.1,g.2];exact⟨rfl,rfl⟩
 rename_i h1
 rw[if_neg h1]at g;rw[h.1,h.2,g.1,g.2];exact⟨rfl,rfl⟩
theorem sC.same(h:sC k a b er out)(g:sC k a b er' out'):er=er'/\out=out':=by
 unfold sC at h g
 split at h
 ·rename_i h1
  rw[if_pos h1]at g
  split at h
  ·rename_i h2
   rw[if_pos h2]at g
   split at h
   ·rename_i h3
    rw[if_pos h3]at g;exact h.same g λ_=>rfl
   rename_i h3
   rw[if_neg h3]at g;rw[h.1,h.2,g.1,g.2];exact⟨rfl,rfl⟩
  rename_i h2
  rw[if_neg h2]at g;rw[h.1,h.2,g.1,g.2];exact⟨rfl,rfl⟩
 rename_i h1
 rw[if_neg h1]at g;rw[h.1,h.2,g.1,g.2];exact⟨rfl,rfl⟩
theorem SM(m:List zg)(p:zg):tS ([p.f,p.t]++ml m) (pd m p):=λt h=>by
 by_cases hp:t=p.f∨t=p.t
 ·refine List.mem_append_left _ ?_
  rcases hp with rfl|rfl <;> simp
 refine List.mem_append_right _ (rH m t ?_);unfold pd at h
 by_cases h1:p.f<=t/\t<p.t
 ·rw[if_pos h1,if_pos (by omega)]at h;exact absurd rfl h
 rw[if_neg h1,if_neg (by omega)]at h;exact h
theorem VU(m:List zg)(l:List zw)(yes:Bool):tS (ks l++ml m) (XR m l yes):=(nG l).op (λx y=>if x=yes then y else none) (rH m)
theorem XL(k:Int)(a b:List zg):tS (ml a++ml b) (VN k a b):=(rH a).op (Od k) (rH b)
theorem xY.good(h:xY m p er out)(h0:er=0):yd m=0/\tD (pd m p) er out/\yd out=0:=by
 unfold xY at h
 split at h
 ·rename_i h1
  split at h
  ·rename_i h2
   refine⟨h1,h,h.mok h0 (SM m p) (rv.append (λt A=>?_) (wI h1).2.ends)⟩;simp only[List.mem_cons,List.not_mem_nil,or_false]at A;rcases A with rfl|rfl
   ·exact h2.1
   exact h2.2.1
  rw[h0]at h;simp at h
 rename_i h1
 rw[h0]at h;exact absurd h.1.symm h1
theorem xY.none(h:xY m p er out)(h0:er≠0):out=[]:=by
 unfold xY at h
 split at h
 ·split at h
  ·obtain⟨U,_,_,_,_,A⟩:=h;exact A h0
  exact h.2
 exact h.2
theorem xY.again(h:xY m p 0 out)(g:xY out p er out'):er=0/\out'=out:=by
 obtain⟨C,D,B⟩:=h.good rfl;unfold xY at h;rw[if_pos C]at h
 split at h
 ·rename_i hp
  unfold xY at g;rw[if_pos B,if_pos hp]at g;refine g.zero B λt=>?_;unfold pd
  by_cases A:p.f<=t/\t<p.t
  ·rw[if_pos A,(D.good rfl).2.1 t];unfold pd;rw[if_pos A]
  rw[if_neg A]
 simp at h
theorem sC.tells(h:sC k a b er out)(A:yd a=0)(B:yd b=0)(C:1<=k/\k<=3):tD (VN k a b) er out:=by
 unfold sC at h
 rwa[if_pos A,if_pos B,if_pos C]at h
theorem sC.ok(h:sC k a b er out)(ha:yd a=0)(hb:yd b=0)(hk:1<=k/\k<=3)(h0:er=0):yd out=0:=
 (h.tells ha hb hk).mok h0 (XL k a b) ((wI ha).2.ends.append (wI hb).2.ends)
theorem sE.tells(h:sE m l yes er out)(B:yd m=0)(A:yw l=0):tD (XR m l yes) er out:=by
 unfold sE at h
 rwa[if_pos B,if_pos A]at h
theorem SG(hm:yd m=0):∀t v,XR m l yes t=some v->zL v=true:=λt v hv=>by
 unfold XR at hv
 split at hv
 ·exact(wI hm).2.vals hv
 simp at hv
theorem sE.two(h:sE m l yes er out)(hm:yd m=0)(hl:yw l=0)(h0:er≠0):er=2:=(h.tells hm hl).two (SG hm) h0
theorem sE.ok(h:sE m l yes er out)(hm:yd m=0)(hl:yw l=0)(h0:er=0):yd out=0:=
 (h.tells hm hl).mok h0 (VU m l yes) ((li hl).2.ends.append (wI hm).2.ends)
theorem QX(m:List zg)(t:Int):zE (Ta m) t=(xN m t).isSome:=by
 induction m with
 |nil=>rfl
 |cons x m ih=>
  by_cases A:x.f<=t/\t<x.t
  ·rw[ut A];exact xc.2 (.inl A)
  rw[xC A,<-ih,Bool.eq_iff_iff];show zE (⟨x.f,x.t⟩::Ta m) t=true↔_;rw[xc];exact⟨λh=>h.elim (λh=>absurd h A) id,.inr⟩
theorem pX.of{l D:List zw}(h:pX l D)(F:∀x,x∈l->zL x.f=true/\zL x.t=true):Of (zE l) l.length D:=by
 refine⟨h.1,h.2,λx A=>?_,?_⟩
 ·have E:=h.1.2 x A
  have C:rv (ks l):=λt B=>by
   rcases List.mem_append.1 B with B|B
   ·obtain⟨x,A,rfl⟩:=List.mem_map.1 B;exact(F x A).1
   obtain⟨x,A,rfl⟩:=List.mem_map.1 B;exact(F x A).2
  refine⟨C _ (nG l _ ?_),C _ (nG l _ ?_)⟩
  ·rw[<-h.2,<-h.2,h.1.at_ A (Int.le_refl _) E,h.1.gapF A];simp
  rw[<-h.2,<-h.2,h.1.at_ A (show x.f<=x.t-1 by omega) (by omega),h.1.gapT A];simp
 have:=h.1.count (S:=l.map zw.f) λt H G=>Yi (by rw[<-h.2];exact H) (by rw[<-h.2];exact G);simpa using this
theorem Yx.of{m:List zg}{A:List zw}(h:Yx m er A)(D:yd m=0):er=0/\Of (λt=>(xN m t).isSome) 200 A:=by
 obtain⟨G,C⟩:=h;obtain rfl:er=0:=G.trans D;rw[if_pos rfl]at C;obtain⟨I,F⟩:=wI D;have B:=C.of λx H=>by
  obtain⟨y,E,rfl⟩:=List.mem_map.1 H;exact⟨(F.near y E).1,(F.near y E).2.1⟩
 refine⟨rfl,B.norm,λt=>by rw[B.has,QX],B.near,?_⟩;have:=B.len;simp only[Ta,List.length_map]at this;omega
end
open Go.RowKit
theorem yJ{B:Func}{t u v x:Tmp}(h:B.results=#[.tmp t,.tmp u,.tmp v,.tmp x])(A:Array Value)(P:Program)(w:World) :
  (results B A).run P w=.ok (.tuple #[A.getD t undef,A.getD u undef,A.getD v undef,A.getD x undef]) w:=by simp[results,h]
theorem zD{w w':World}{p:Addr}{v:Value}(hb:Below w.heap.size w w')(h:w.cell? p=some v):w'.cell? p=some v:=(hb.cell (World.block_lt_of_cell? w p h)).trans h
theorem Oc{W w1:World}(hb:Below W.heap.size W w1):(∀b o,b<W.heap.size->w1.cell? ⟨b,o,none⟩=W.cell? ⟨b,o,none⟩)/\(∀b o,b<W.heap.size->w1.frozen? ⟨b,o,none⟩=W.frozen? ⟨b,o,none⟩):=
 ⟨λb o h=>hb.cell (p:=⟨b,o,none⟩) h,λb o h=>hb.frozen (p:=⟨b,o,none⟩) h⟩
theorem Og{w A:World}{C D E:Addr}{F G H:Value}(B:Below w.heap.size w A)(h:w.cell? C=some F/\w.cell? D=some G/\w.cell? E=some H):A.cell? C=some F/\A.cell? D=some G/\A.cell? E=some H:=by
 obtain⟨I,J,K⟩:=h;exact⟨zD B I,zD B J,zD B K⟩
theorem Qu{w A:World}{C D E F G:Addr}{H I J K L:Value}(B:Below w.heap.size w A)(h:w.cell? C=some H/\w.cell? D=some I/\w.cell? E=some J/\w.cell? F=some K/\w.cell? G=some L):A.cell? C=some H/\A.cell? D=some I/\A.cell? E=some J/\A.cell? F=some K/\A.cell? G=some L:=by
 obtain⟨M,N,O,P,Q⟩:=h;exact⟨zD B M,zD B N,zD B O,zD B P,zD B Q⟩
theorem dr{w A:World}{C D E F G H I J:Addr}{K L M N O P Q R:Value}(B:Below w.heap.size w A)(h:w.cell? C=some K/\w.cell? D=some L/\w.cell? E=some M/\w.cell? F=some N/\w.cell? G=some O/\w.cell? H=some P/\w.cell? I=some Q/\w.cell? J=some R):A.cell? C=some K/\A.cell? D=some L/\A.cell? E=some M/\A.cell? F=some N/\A.cell? G=some O/\A.cell? H=some P/\A.cell? I=some Q/\A.cell? J=some R:=by
 obtain⟨S,T,U,V,W,X,Y,Z⟩:=h;exact⟨zD B S,zD B T,zD B U,zD B V,zD B W,zD B X,zD B Y,zD B Z⟩
theorem OO{w A:World}{C D E F G H I J K:Addr}{L M N O P Q R S T:Value}(B:Below w.heap.size w A)(h:w.cell? C=some L/\w.cell? D=some M/\w.cell? E=some N/\w.cell? F=some O/\w.cell? G=some P/\w.cell? H=some Q/\w.cell? I=some R/\w.cell? J=some S/\w.cell? K=some T):A.cell? C=some L/\A.cell? D=some M/\A.cell? E=some N/\A.cell? F=some O/\A.cell? G=some P/\A.cell? H=some Q/\A.cell? I=some R/\A.cell? J=some S/\A.cell? K=some T:=by
 obtain⟨U,V,W,X,Y,Z,a,b,c⟩:=h;exact⟨zD B U,zD B V,zD B W,zD B X,zD B Y,zD B Z,zD B a,zD B b,zD B c⟩
def Own{α:Type}(enc:α->List Value)(sz:Nat)(w:World)(base:Nat)(e:TypeId)(v:Value)(l:List α):Prop:=w.ownsRow base e sz v l.length (l.flatMap enc)
theorem Own.nil{α:Type}{enc:α->List Value}{sz:Nat}{w:World}{base:Nat}{e:TypeId}:Own enc sz w base e (.slice none 0 0) ([]:List α):=World.ownsRow_nil _ _ _ _
section
variable {α:Type}{enc:α->List Value}{sz:Nat}{w w':World}{base:Nat}{e:TypeId}{v:Value}{l:List α}
theorem Own.alloc(h:Own enc sz w base e v l)(o:Obj):Own enc sz (w.alloc o) base e v l:=World.ownsRow.alloc h o
theorem Own.drew(h:Own enc sz w base e v l):Own enc sz w.drew base e v l:=h
theorem Own.drewN(h:Own enc sz w base e v l)(n:Nat):Own enc sz (w.drewN n) base e v l:=h
theorem Own.ext(h:Own enc sz w base e v l)(C:Below w.heap.size w w'):Own enc sz w' base e v l:=by
 refine⟨h.1,?_⟩;rcases h.2 with B|⟨g,cap,cur,hv,hg,hh,r⟩
 ·exact .inl B
 have A:g<w.heap.size:=by
  rcases Nat.lt_or_ge g w.heap.size with A|hge
  ·exact A
  rw[Array.getElem?_eq_none hge]at hh;cases hh
 exact .inr ⟨g,cap,cur,hv,hg,(C.block g A).trans hh,r⟩
theorem Own.form(h:Own enc sz w base e v l):∃A c,v=.slice A l.length c:=by
 rcases h.2 with⟨rfl,D⟩|⟨g,B,C,rfl,_⟩
 ·exact⟨none,0,by rw[D]⟩
 exact⟨_,_,rfl⟩
theorem Own.len(h:Own enc sz w base e v l):l.length<=maxLen:=by
 rcases h.2 with⟨rfl,C⟩|⟨g,A,B,rfl,_,_,D,E,_⟩
 ·rw[C];exact Nat.zero_le _
 exact Nat.le_trans D E
theorem Own.slAt{R:World->Nat->Nat->α->Prop}(B:∀x,(enc x).length=sz)(N:∀x,x∈l->∀b o,(∀j u,(enc x)[j]?=some u->zJ w b (o+j) u)->R w b o x)(h:Own enc sz w base e v l) :
  ∃A c,v=.slice A l.length c/\zU R sz w A l:=by
 rcases h.2 with⟨rfl,K⟩|⟨g,G,H,rfl,T,J,S,O,P,D⟩
 ·refine⟨none,0,by rw[K],0,0,λi x E=>?_⟩
  have:l=[]:=List.eq_nil_of_length_eq_zero K;subst this;simp at E
 refine⟨some ⟨g,0,none⟩,G,rfl,g,0,λi x E=>⟨rfl,?_,?_⟩⟩
 ·rcases Nat.lt_or_ge g w.heap.size with C|hge
  ·exact C
  rw[Array.getElem?_eq_none hge]at J;cases J
 refine N x (List.mem_of_getElem? E) g _ λj u L=>?_;have Q:=zy E;have U:j<sz:=by rw[<-B x];exact zy L
 have I:∀(l:List α) (i:Nat),l[i]?=some x->(l.flatMap enc)[i*sz+j]?=some u:=by
  intro l
  induction l with
  |nil=>intro i h;simp at h
  |cons y l ih=>
   intro i h
   cases i with
   |zero=>
    obtain rfl:y=x:=by simpa using h
    rw[List.flatMap_cons,List.getElem?_append_left (by rw[B];omega)];simpa using L
   |succ i=>
    have M:l[i]?=some x:=by simpa using h
    rw[List.flatMap_cons,List.getElem?_append_right (by rw[B,Nat.succ_mul];omega),B];have e:(i+1)*sz+j-sz=i*sz+j:=by rw[Nat.succ_mul];omega
    rw[e];exact ih i M
 have F:=I l i E;rw[<-D]at F;have C:i*sz+j<l.length*sz:=by
  have:=zy F;rw[List.length_take]at this;omega
 rw[List.getElem?_take_of_lt C]at F;show w.cell? _=_;rw[cell_of_row w g _ H e (0,0) J];simpa using F
end
theorem vM{P:Program}{G:Array Oper}{rest:List Oper}{o:Oper}{a:Act}{Q:Exit->Act->World->Prop}{A:World}{α:Type}{enc:α->List Value}(N:o.guard=none)(s x:Operand)(t:TypeId)
  (W:o.op=.call { callee:=.builtin .append,args:=#[s,x],argTypes:=#[t,t]})
  (base:Nat) (e:TypeId) (i:TypeInfo) (z:Value) (size bytes:Nat) (Y:P.underlying t=some (.slice e)) (hi:P.info? e=some i) (c:i.zero=some z)
  (D:i.size=size) (K:i.bytes=bytes) (S:z.cells.size=size) (R:0<size)
  (v:Value) (l:List α) (y:α) (X:a.eval s=v) (B:Own enc size A base e v l) (cs:Array Value) (M:cs.toList=enc y) (k:Nat) (O:k=A.heap.size) (b:a.eval x=.slice (some ⟨k,0,none⟩) 1 1) (L:cs.size=size)
  (h1:∀u∈cs.toList,u.oneCell'=true) (I:l.length+1<=1000000) (F:bytes<=1000) (C:base<=A.heap.size)
  (h:∀H E,Own enc size E base e H (l++[y])->Below base A E->wpList P G Q rest (a.put o.dst H) E):wpList P G Q (o::rest) a (A.alloc (.cells cs e)):=by
 subst O;have J:(l.length+1)*bytes<=140737488355328:=Nat.le_trans (Nat.mul_le_mul I F) (by decide);refine wpList_append_own _ N s x t W base e i z size bytes Y hi c D K S R v l.length (l.flatMap enc) X (World.ownsRow.alloc B _) ⟨A.heap.size,0,none⟩ 1 1 cs.toList b (by simp[L])
  ?_ h1 (by unfold maxLen;omega) J (by simp;omega) ?_
 ·intro j u Z
  rw[Go.WideShapes.add_plain,cell_of_row _ _ _ cs e (0,0) (heap_alloc_new A _)];simpa using Z
 intro H E T U _;refine h H E ?_ ?_
 ·show E.ownsRow base e size H (l++[y]).length ((l++[y]).flatMap enc)
  rw[List.flatMap_append,List.length_append];simpa[M]using T
 have V:Below base A (A.alloc (.cells cs e)):=(Below.refl _ _).alloc C _;exact V.grown U (by simp;omega) λk O=>(World.ownsRow.lt B k O).1
theorem Own.other{α:Type}{enc:α->List Value}{sz:Nat}{w:World}{base:Nat}{e t:TypeId}{v:Value}{l:List α}{b:Nat}{cs:Array Value}(h:Own enc sz w base e v l)(B:zj w b t cs)(F:t≠e):some b≠v.ownBlock:=by
 rcases h.2 with⟨rfl,_⟩|⟨g,C,D,rfl,_,E,_⟩
 ·simp[Value.ownBlock]
 intro A;simp only[Value.ownBlock,Option.some.injEq]at A;subst A;unfold zj at B;rw[E]at B
 cases B
 exact F rfl
theorem yf{P:Program}{H:Array Oper}{rest:List Oper}{o:Oper}{a:Act}{Q:Exit->Act->World->Prop}{B:World}{α:Type}{enc:α->List Value}(S:o.guard=none)(s x:Operand)(t:TypeId)
  (f:o.op=.call { callee:=.builtin .append,args:=#[s,x],argTypes:=#[t,t]})
  (base:Nat) (e:TypeId) (i:TypeInfo) (z:Value) (size bytes:Nat) (n:P.underlying t=some (.slice e)) (hi:P.info? e=some i) (r:i.zero=some z)
  (E:i.size=size) (N:i.bytes=bytes) (W:z.cells.size=size) (U:0<size)
  (v:Value) (l:List α) (J:List α) (m:Nat) (d:J.length=m) (g:a.eval s=v) (A:Own enc size B base e v l) (cs:Array Value) (R:cs.toList=J.flatMap enc) (k:Nat) (T:k=B.heap.size) (q:a.eval x=.slice (some ⟨k,0,none⟩) m m) (O:cs.size=m*size)
  (h1:∀u∈cs.toList,u.oneCell'=true) (L:l.length+m<=1000000) (G:bytes<=1000) (D:base<=B.heap.size)
  (h:∀I F,Own enc size F base e I (l++J)->Below base B F->(∀b K C,zj B b K C->K≠e->zj F b K C)->wpList P H Q rest (a.put o.dst I) F):wpList P H Q (o::rest) a (B.alloc (.cells cs e)):=by
 subst T;have M:(l.length+m)*bytes<=140737488355328:=Nat.le_trans (Nat.mul_le_mul L G) (by decide);refine wpList_append_own _ S s x t f base e i z size bytes n hi r E N W U v l.length (l.flatMap enc) g (World.ownsRow.alloc A _) ⟨B.heap.size,0,none⟩ m m cs.toList q (by simp[O])
  ?_ h1 (by unfold maxLen;omega) M (by simp;omega) ?_
 ·intro j u p
  rw[Go.WideShapes.add_plain,cell_of_row _ _ _ cs e (0,0) (heap_alloc_new B _)];simpa using p
 intro I F Z X _;refine h I F ?_ ?_ λb K C Y V=>(Y.alloc _).grown X (A.other Y V)
 ·show F.ownsRow base e size I (l++J).length ((l++J).flatMap enc)
  rw[List.flatMap_append,List.length_append,d];simpa[R]using Z
 have c:Below base B (B.alloc (.cells cs e)):=(Below.refl _ _).alloc D _;exact c.grown X (by simp;omega) λk T=>(World.ownsRow.lt A k T).1
theorem Own.lit{α:Type}{enc:α->List Value}{sz:Nat}{w:World}{base:Nat}{e:TypeId}{cs:Array Value}{l:List α}{n m:Nat}(F:n=w.heap.size)(D:base<=n)(C:l.length=m)(B:cs.toList=l.flatMap enc)(A:cs.size=m*sz)(E:m<=maxLen) :
  Own enc sz (w.alloc (.cells cs e)) base e (.slice (some ⟨n,0,none⟩) m m) l:=by
 subst F;refine⟨by rw[<-B,C];simpa using A,.inr ⟨w.heap.size,m,cs,by rw[C],D,heap_alloc_new w _,by omega,E,A,?_⟩⟩;rw[<-B,C,List.take_of_length_le];simp[A]
theorem zi{B:Nat}{a w:World}(h:Below B a w):Below B a w.drew:=⟨h.os,h.tape,h.output,h.size,h.block⟩
theorem rh{B:Nat}{w w':World}{p:Addr}{v:Value}(hb:Below B w w')(hp:p.block<B)(h:w.cell? p=some v):w'.cell? p=some v:=(hb.cell hp).trans h
theorem ZO{B:Nat}{w A:World}{D E F G:Addr}{H I J K:Value}(C:Below B w A)(h0:D.block<B)(h1:E.block<B)(L:F.block<B)(M:G.block<B)
  (h:w.cell? D=some H/\w.cell? E=some I/\w.cell? F=some J/\w.cell? G=some K):A.cell? D=some H/\A.cell? E=some I/\A.cell? F=some J/\A.cell? G=some K:=by
 obtain⟨N,O,P,Q⟩:=h;exact⟨rh C h0 N,rh C h1 O,rh C L P,rh C M Q⟩
theorem tW{P:Program}{w:World}{X:Array Oper}{o:Oper}{a:Act}{K:Act->World->Prop}{Q:Exit->Act->World->Prop}{E:Prop}{α:Type}{enc:α->List Value}(R:o.guard=none)(s x:Operand)(t:TypeId)
  (n:o.op=.call { callee:=.builtin .append,args:=#[s,x],argTypes:=#[t,t]})
  (base:Nat) (e:TypeId) (i:TypeInfo) (z:Value) (size bytes:Nat) (q:P.underlying t=some (.slice e)) (hi:P.info? e=some i) (y:i.zero=some z)
  (D:i.size=size) (M:i.bytes=bytes) (W:z.cells.size=size) (U:0<size)
  (v:Value) (l:List α) (H:List α) (m:Nat) (j:H.length=m) (T:0<m) (p:a.eval s=v) (B:Own enc size w base e v l) (cs:Array Value) (O:cs.toList=H.flatMap enc) (k:Nat) (S:zj w k e cs) (r:a.eval x=.slice (some ⟨k,0,none⟩) m m) (N:cs.size=m*size)
  (h1:∀u∈cs.toList,u.oneCell'=true) (J:l.length+m<=1000000) (G:bytes<=1000) (A:base<=w.heap.size)
  (h:∀c F,Own enc size F base e c (l++H)->Below base w F->(∀b I C,zj w b I C->I≠e->zj F b I C)->K (a.put o.dst c) F) :
  if Region.wanted o (yielded X a.tmps)=true then Oper.wp P o a w K Q else E:=by
 have L:(l.length+m)*bytes<=140737488355328:=Nat.le_trans (Nat.mul_le_mul J G) (by decide);refine step_append_lies w R s x t n base e i z size bytes q hi y D M W U v l.length (l.flatMap enc) p B ⟨k,0,none⟩ m m cs.toList r (by simp[N])
  (World.news_of_block S) h1 T (by unfold maxLen;omega) L A _ rfl ?_
 intro g d F f Y _ _;refine h _ F ?_ ?_ λb I C Z V=>Z.grown Y (B.other Z V)
 ·show F.ownsRow base e size _ (l++H).length ((l++H).flatMap enc)
  rw[List.flatMap_append,List.length_append,j];simpa[O]using f
 exact(Below.refl base w).grown Y A λk S=>(World.ownsRow.lt B k S).1
structure pU(ι:Type) where
 a:ι
 b:ι
 f:Int->Int
section
variable {ι:Type}
def Ob(A:pU ι->Prop)(init d:ι->Int):Prop:=(∀i,d i<=init i)/\∀x,A x->d x.b<=x.f (d x.a)
def wV(A:pU ι->Prop)(init d:ι->Int):Prop:=∀e,Ob A init e->∀i,e i<=d i
def qp(A:pU ι->Prop)(init d:ι->Int):Prop:=Ob A init d/\wV A init d
def kj(f:Int->Int):Prop:=∀s t,s<=t->f s<=f t
variable {A:pU ι->Prop}{init d e:ι->Int}
theorem qp.eq(h:qp A init d)(k:qp A init e):d=e:=funext λi=>Int.le_antisymm (k.2 d h.1 i) (h.2 e k.1 i)
theorem wM:wV A init init:=λ_ h i=>h.1 i
variable [DecidableEq ι]
def upd(d:ι->Int)(i:ι)(x:Int):ι->Int:=λj=>if j=i then x else d j
theorem yD(d:ι->Int)(i:ι)(x:Int):upd d i x i=x:=by simp[upd]
theorem yx(d:ι->Int){i j:ι}(x:Int)(h:¬j=i):upd d i x j=d j:=by simp[upd,h]
theorem Pe(d:ι->Int)(i:ι):upd d i (d i)=d:=by funext j;by_cases h:j=i <;> simp[upd,h]
theorem wV.upd{C:ι->Int}(h:wV A init d)(E:wV A init C){x:pU ι}(G:A x)(F:kj x.f){n:Int}(K:x.f (C x.a)<=n):wV A init (upd d x.b (min (d x.b) n)):=by
 intro e B i
 by_cases D:i=x.b
 ·subst D
  rw[yD];have H:=h e B x.b;have I:=B.2 x G;have J:=F _ _ (E e B x.a);omega
 rw[yx _ _ D];exact h e B i
theorem qp.tight(h:qp A init d)(G:∀x,A x->kj x.f){j:ι}(K:d j<init j):∃x,A x/\x.b=j/\x.f (d x.a)=d j:=by
 refine Classical.byContradiction λD=>?_;have C:∀i,d i<=Go.Proofs.YtjcimdpldlamfaaGreatDoor.upd d j (d j+1) i:=λi=>by
  by_cases B:i=j
  ·subst B;rw[yD];omega
  rw[yx _ _ B];exact Int.le_refl _
 have H:Ob A init (Go.Proofs.YtjcimdpldlamfaaGreatDoor.upd d j (d j+1)):=by
  refine⟨λi=>?_,λx E=>?_⟩
  ·by_cases B:i=j
   ·subst B;rw[yD];omega
   rw[yx _ _ B];exact h.1.1 i
  have F:=h.1.2 x E;have I:=G x E _ _ (C x.a)
  by_cases B:x.b=j
  ·rw[B,yD]
   have J:¬x.f (d x.a)=d j:=λe=>D ⟨x,E,B,e⟩;rw[B]at F;omega
  rw[yx _ _ B];omega
 have:=h.2 _ H j;rw[yD]at this;omega
omit [DecidableEq ι] in
theorem qp.far(h:qp A init d){I:Int}(G:∀i,d i<=I)(L:∀x,A x->kj x.f)(K:∀x,A x->I<=x.f I)(S:ι->Prop)(J:∀x,A x->S x.b->S x.a)(hi:∀i,S i->I<=init i):∀i,S i->d i=I:=by
 intro i E;have M:Ob A init (λj=>open Classical in if S j then I else d j):=by
  refine⟨λj=>?_,λx B=>?_⟩
  ·by_cases F:S j
   ·simp only[if_pos F];exact hi j F
   simp only[if_neg F];exact h.1.1 j
  have D:d x.a<=(open Classical in if S x.a then I else d x.a):=by
   by_cases H:S x.a
   ·rw[if_pos H];exact G _
   rw[if_neg H];exact Int.le_refl _
  by_cases C:S x.b
  ·simp only[if_pos C,if_pos (J x B C)];exact K x B
  simp only[if_neg C];exact Int.le_trans (h.1.2 x B) (L x B _ _ D)
 have:=h.2 _ M i;simp only[if_pos E]at this;exact Int.le_antisymm (G i) this
end
theorem Xh{P:Int->Prop}{B:Int}(A:∀x,P x->x<=B)(h:∃x,P x):∃m,P m/\∀x,P x->x<=m:=by
 obtain⟨x,D⟩:=h;obtain⟨k,G⟩:∃k:Nat,k=(B-x).toNat:=⟨_,rfl⟩
 induction k using Nat.strongRecOn generalizing x with
 |ind k ih=>
  by_cases C:∀y,P y->y<=x
  ·exact⟨x,D,C⟩
  have⟨y,hy⟩:=Classical.not_forall.1 C;have⟨h1,h2⟩:=Classical.not_imp.1 hy;have E:=A y h1;have F:=A x D;exact ih (B-y).toNat (by omega) y h1 rfl
theorem qp.ex{ι:Type}{A:pU ι->Prop}{init:ι->Int}(J:∀x,A x->kj x.f)(h:∃e,Ob A init e):∃d,qp A init d:=by
 obtain⟨G,H⟩:=h;have I:∀i,∃m,(∃e,Ob A init e/\e i=m)/\∀x,(∃e,Ob A init e/\e i=x)->x<=m:=λi=>
  Xh (B:=init i) (λx ⟨e,C,D⟩=>by rw[<-D];exact C.1 i) ⟨_,G,H,rfl⟩
 obtain⟨d,E⟩:=Classical.axiomOfChoice I;refine⟨d,⟨λi=>?_,λx D=>?_⟩,λe C i=>(E i).2 _ ⟨e,C,rfl⟩⟩
 ·obtain⟨e,C,D⟩:=(E i).1
  rw[<-D];exact C.1 i
 obtain⟨e,C,F⟩:=(E x.b).1;rw[<-F];exact Int.le_trans (C.2 x D) (J x D _ _ ((E x.a).2 _ ⟨e,C,rfl⟩))
def gi(l:List Int)(v:Nat):Int:=l.getD v 0
theorem vE{l:List Int}{v:Nat}{x:Int}(h:l[v]?=some x):gi l v=x:=by simp[gi,List.getD,h]
theorem ou{l:List Int}{v:Nat}(h:v<l.length):l[v]?=some (gi l v):=by simp[gi,List.getD,h]
theorem nF{l:List Int}{v:Nat}(h:l.length<=v):gi l v=0:=by simp[gi,List.getD,h]
theorem vX{l:List Int}{i:Nat}(h:i<l.length)(x:Int):gi (l.set i x)=upd (gi l) i x:=by
 funext j
 by_cases A:j=i
 ·subst A;rw[yD];exact vE (by simp[h])
 rw[yx _ _ A];simp only[gi,List.getD];rw[List.getElem?_set_ne (λh=>A h.symm)]
theorem eU{l r:List Int}(B:l.length=r.length)(h:gi l=gi r):l=r:=by
 refine List.ext_getElem? λi=>?_
 by_cases A:i<l.length
 ·rw[ou A,ou (by omega),h]
 rw[List.getElem?_eq_none (by omega),List.getElem?_eq_none (by omega)]
theorem wN{l r:List Int}(B:l.length=r.length)(h:∀i,i<l.length->gi l i=gi r i):l=r:=by
 refine eU B (funext λi=>?_)
 by_cases A:i<l.length
 ·exact h i A
 rw[nF (by omega),nF (by omega)]
def uW(l:List Int):Nat:=(l.map Int.toNat).sum
theorem gP{l:List Int}{i:Nat}(h:i<l.length)(x:Int):uW (l.set i x)+(gi l i).toNat=uW l+x.toNat:=by
 induction l generalizing i with
 |nil=>simp at h
 |cons y l ih=>
  cases i with
  |zero=>simp[uW,gi];omega
  |succ i=>
   have:=ih (i:=i) (by simpa using h);simp only[List.set_cons_succ,uW,List.map_cons,List.sum_cons]at *;have e:gi (y::l) (i+1)=gi l i:=by simp[gi]
   rw[e];omega
theorem Pa{l r:List Int}(A:l.length=r.length)(h:∀i,gi l i<=gi r i):uW l<=uW r:=by
 induction l generalizing r with
 |nil=>simp[uW]
 |cons x l ih=>
  cases r with
  |nil=>simp at A
  |cons y r=>
   have B:=h 0;have C:=ih (r:=r) (by simpa using A) λi=>by have:=h (i+1);simpa[gi]using this
   simp[gi]at B;simp only[uW,List.map_cons,List.sum_cons]at *;omega
theorem Pb{l r:List Int}(C:l.length=r.length)(h:∀i,gi l i<=gi r i)(h0:∀i,0<=gi l i)(B:¬l=r):uW l<uW r:=by
 induction l generalizing r with
 |nil=>
  cases r with
  |nil=>exact absurd rfl B
  |cons y r=>simp at C
 |cons x l ih=>
  cases r with
  |nil=>simp at C
  |cons y r=>
   have G:=h 0;have H:=h0 0;have D:∀i,gi l i<=gi r i:=λi=>by have:=h (i+1);simpa[gi]using this
   have F:∀i,0<=gi l i:=λi=>by have:=h0 (i+1);simpa[gi]using this
   simp[gi]at G H;have A:l.length=r.length:=by simpa using C
   have I:=Pa A D
   by_cases e:l=r
   ·have:¬x=y:=λE=>B (by rw[e,E])
    simp only[uW,List.map_cons,List.sum_cons]at *;omega
   have:=ih A D F e;simp only[uW,List.map_cons,List.sum_cons]at *;omega
section
variable {arcs:List (pU Nat)}{init d d0:Nat->Int}{done:Nat->Bool}{n:Nat}{I:Int}
structure iQ(arcs:List (pU Nat))(n:Nat)(I:Int)(init d:Nat->Int)(done:Nat->Bool):Prop where
 le:∀i,d i<=init i
 big:∀i,i<n->d i<=I
 above:wV (·∈arcs) init d
 near:∀u v,v<n->done u=true->done v=false->d u<=d v
 told:∀x,x∈arcs->done x.a=true->d x.b<=x.f (d x.a)
structure UA(arcs:List (pU Nat))(n:Nat)(I:Int)(init d0 d:Nat->Int)(done:Nat->Bool)(c k:Nat):Prop where
 le:∀i,d i<=d0 i
 above:wV (·∈arcs) init d
 same:d c=d0 c
 olds:∀u,done u=true->d u=d0 u
 news:∀v,v<n->done v=false->d c<=d v
 told:∀x,x∈arcs.take k->x.a=c->d x.b<=x.f (d c)
def bC(done:Nat->Bool)(c:Nat):Nat->Bool:=λj=>if j=c then true else done j
theorem iQ.begin(h:iQ arcs n I init d done){c:Nat}(hm:∀v,v<n->done v=false->d c<=d v):UA arcs n I init d d done c 0:=
 ⟨λ_=>Int.le_refl _,h.above,rfl,λ_ _=>rfl,hm,λx hx=>by simp at hx⟩
theorem UA.skip{c k:Nat}(h:UA arcs n I init d0 d done c k){x:pU Nat}(D:arcs[k]?=some x)(C:¬x.a=c):UA arcs n I init d0 d done c (k+1):=
 ⟨h.le,h.above,h.same,h.olds,h.news,λy A B=>by
  rw[List.take_add_one,D]at A;rcases List.mem_append.1 A with A|A
  ·exact h.told y A B
  obtain rfl:y=x:=by simpa using A
  exact absurd B C⟩
theorem UA.step{c k:Nat}(h:UA arcs n I init d0 d done c k)(h0:iQ arcs n I init d0 done)(F:c<n)(G:done c=false){x:pU Nat}(M:arcs[k]?=some x)(O:x.a=c)(H:kj x.f)(Q:d c<=x.f (d c)) :
  UA arcs n I init d0 (upd d x.b (min (d x.b) (x.f (d c)))) done c (k+1):=by
 have E:x∈arcs:=List.mem_of_getElem? M;have D:∀i,upd d x.b (min (d x.b) (x.f (d c))) i<=d i:=λi=>by
  by_cases A:i=x.b
  ·subst A;rw[yD];omega
  rw[yx _ _ A];exact Int.le_refl _
 have B:upd d x.b (min (d x.b) (x.f (d c))) c=d c:=by
  by_cases A:c=x.b
  ·rw[<-A,yD];omega
  rw[yx _ _ A]
 refine⟨λi=>Int.le_trans (D i) (h.le i),h.above.upd h.above E H (by rw[O];exact Int.le_refl _),by rw[B];exact h.same,λu L=>?_,λv R P=>?_,λy C J=>?_⟩
 ·have K:=h0.near u c F L G
  have N:=h.olds u L;have S:=h.same
  by_cases A:u=x.b
  ·rw[A,yD,<-A];omega
  rw[yx _ _ A];exact N
 ·rw[B]
  have K:=h.news v R P
  by_cases A:v=x.b
  ·rw[A,yD,<-A];omega
  rw[yx _ _ A];exact K
 rw[B];rw[List.take_add_one,M]at C;rcases List.mem_append.1 C with C|C
 ·exact Int.le_trans (D _) (h.told y C J)
 obtain rfl:y=x:=by simpa using C
 rw[yD];omega
theorem UA.stay{c k:Nat}(h:UA arcs n I init d0 d done c k){x:pU Nat}(D:arcs[k]?=some x)(B:d x.b<=x.f (d c)):UA arcs n I init d0 d done c (k+1):=
 ⟨h.le,h.above,h.same,h.olds,h.news,λy A C=>by
  rw[List.take_add_one,D]at A;rcases List.mem_append.1 A with A|A
  ·exact h.told y A C
  obtain rfl:y=x:=by simpa using A
  exact B⟩
theorem UA.fin{c k:Nat}(h:UA arcs n I init d0 d done c k)(h0:iQ arcs n I init d0 done)(D:c<n)(E:done c=false)(J:arcs.length<=k):iQ arcs n I init d (bC done c):=by
 refine⟨λi=>Int.le_trans (h.le i) (h0.le i),λi H=>Int.le_trans (h.le i) (h0.big i H),h.above,λu v F C A=>?_,λx G A=>?_⟩
 ·have B:done v=false:=by
   simp only[bC]at A
   split at A
   ·simp at A
   exact A
  simp only[bC]at C
  split at C
  ·rename_i e;rw[e];exact h.news v F B
  have K:=h0.near u c D C E;have L:=h.olds u C;have M:=h.same;have N:=h.news v F B;omega
 by_cases e:x.a=c
 ·rw[e];exact h.told x (by rw[List.take_of_length_le J];exact G) e
 simp only[bC,if_neg e]at A;rw[h.olds _ A];exact Int.le_trans (h.le _) (h0.told x G A)
theorem iQ.best(h:iQ arcs n I init d done)(A:∀v,v<n->done v=true∨I<=d v)(G:∀x,x∈arcs->x.a<n/\x.b<n/\kj x.f/\I<=x.f I):qp (·∈arcs) init d:=by
 refine⟨⟨h.le,λx C=>?_⟩,h.above⟩;obtain⟨D,E,F,H⟩:=G x C;rcases A x.a D with B|B
 ·exact h.told x C B
 have:=F _ _ B;have:=h.big x.b E;omega
end
end Go.Proofs.YtjcimdpldlamfaaGreatDoor
