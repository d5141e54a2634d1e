import Derived.Test.YtjcimdpldlamfaaGreatDoorProg
import Derived.Test.YtjcimdpldlamfaaGreatDoorBd97de4c1709
namespace Go.Proofs.YtjcimdpldlamfaaGreatDoor
structure kl(S:List Int)(i:Nat)(D:List Int):Prop where
 up:D.Pairwise (· < ·)
 mem:∀x,x∈D↔x∈S.take i
 short:D.length<=i
 pos:0<i->0<S.length->0<D.length
section
variable {S D o l:List Int}{i j:Nat}{x z a b c t:Int}
theorem kl.start:kl S 0 []:=⟨.nil,λx=>by simp,Nat.le_refl _,λh=>by omega⟩
theorem cN(hi:S[i]?=some x):∀y,y∈S.take (i+1)↔y∈S.take i∨y=x:=λy=>by
 rw[List.take_add_one,hi];simp
theorem kl.same(h:kl S i (o++[x]))(hi:S[i]?=some x):kl S (i+1) (o++[x]):=by
 refine⟨h.up,λy=>?_,by have:=h.short;omega,λ_ _=>by simp⟩;rw[cN hi,<-h.mem];simp
theorem kl.first(hi:S[0]?=some x):kl S 1 [x]:=⟨by simp,λy=>by rw[cN hi];simp,by simp,λ_ _=>by simp⟩
theorem kl.new(h:kl S i (o++[z]))(K:S.Pairwise (·<=·))(hi:S[i]?=some x)(M:z≠x):kl S (i+1) (o++[z]++[x]):=by
 have F:∀y,y∈o++[z]->y<=x:=λy G=>by
  have A:=(h.mem y).1 G;obtain⟨j,D⟩:=List.getElem?_of_mem A;have B:j<i:=by have:=(List.getElem?_eq_some_iff.1 D).1;rw[List.length_take]at this;omega
  rw[List.getElem?_take_of_lt B]at D;obtain⟨C,I⟩:=List.getElem?_eq_some_iff.1 hi;obtain⟨E,J⟩:=List.getElem?_eq_some_iff.1 D;have:=List.pairwise_iff_getElem.1 K j i E C B;omega
 have H:z<x:=by have:=F z (by simp);omega
 refine⟨?_,λy=>?_,by have:=h.short;simp only[List.length_append,List.length_cons,List.length_nil]at *;omega,λ_ _=>by simp⟩
 ·rw[List.pairwise_append]
  refine⟨h.up,by simp,λy G u L=>?_⟩;obtain rfl:u=x:=by simpa using L
  rcases List.mem_append.1 G with A|A
  ·have:=(List.pairwise_append.1 h.up).2.2 y A z (by simp)
   omega
  obtain rfl:y=z:=by simpa using A
  exact H
 rw[cN hi,<-h.mem];simp only[List.mem_append,List.mem_singleton]
theorem qC(h:D.Pairwise (· < ·))(E:D[i]?=some a)(G:D[i+1]?=some c)(F:b∈D):b<=a∨c<=b:=by
 obtain⟨j,H⟩:=List.getElem?_of_mem F;obtain⟨B,I⟩:=List.getElem?_eq_some_iff.1 E;obtain⟨C,J⟩:=List.getElem?_eq_some_iff.1 G;obtain⟨A,K⟩:=List.getElem?_eq_some_iff.1 H;rcases Nat.lt_trichotomy j i with k|k|k
 ·have:=List.pairwise_iff_getElem.1 h j i A B k;omega
 ·subst k;omega
 by_cases e:j=i+1
 ·subst e;omega
 have:=List.pairwise_iff_getElem.1 h (i+1) j C A (by omega);omega
theorem uT(h:D.Pairwise (· < ·))(C:D[i]?=some a)(E:D[i+1]?=some c):a<c:=by
 obtain⟨A,F⟩:=List.getElem?_eq_some_iff.1 C;obtain⟨B,G⟩:=List.getElem?_eq_some_iff.1 E;have:=List.pairwise_iff_getElem.1 h i (i+1) A B (by omega);omega
theorem rO(h:D.Pairwise (· < ·))(C:D[0]?=some a)(E:b∈D):a<=b:=by
 obtain⟨j,F⟩:=List.getElem?_of_mem E;obtain⟨A,G⟩:=List.getElem?_eq_some_iff.1 C;obtain⟨B,H⟩:=List.getElem?_eq_some_iff.1 F
 by_cases e:j=0
 ·subst e;omega
 have:=List.pairwise_iff_getElem.1 h 0 j A B (by omega);omega
theorem jl(h:D.Pairwise (· < ·))(C:D[i]?=some a)(hi:i+1=D.length)(E:b∈D):b<=a:=by
 obtain⟨j,F⟩:=List.getElem?_of_mem E;obtain⟨A,G⟩:=List.getElem?_eq_some_iff.1 C;obtain⟨B,H⟩:=List.getElem?_eq_some_iff.1 F
 by_cases e:j=i
 ·subst e;omega
 have:=List.pairwise_iff_getElem.1 h j i B A (by omega);omega
end
structure yA{α:Type}(D:List Int)(no:α)(fn:Int->α):Prop where
 const:∀(i:Nat) a c,D[i]?=some a->D[i+1]?=some c->∀t,a<=t->t<c->fn t=fn a
 inside:∀t,fn t≠no->∃a c,a∈D/\c∈D/\a<=t/\t<c
theorem Vn{D:List Int}{l:List zw}(h:D.Pairwise (· < ·))(B:∀x,x∈l->x.f∈D/\x.t∈D):yA D false (zE l):=by
 refine⟨λi a c C E t K L=>?_,λt J=>?_⟩
 ·rw[Bool.eq_iff_iff,xD,xD]
  constructor
  ·rintro⟨x,A,F,G⟩
   have H:=qC h C E (B x A).1;have I:=qC h C E (B x A).2;exact⟨x,A,by omega,by omega⟩
  rintro⟨x,A,F,G⟩;have H:=qC h C E (B x A).1;have I:=qC h C E (B x A).2;exact⟨x,A,by omega,by omega⟩
 obtain⟨x,A,F,G⟩:=xD.1 (by simpa using J:zE l t=true);exact⟨x.f,x.t,(B x A).1,(B x A).2,F,G⟩
theorem iX{D:List Int}(h:D.Pairwise (· < ·)):∀{l:List zg},(∀x,x∈l->x.f∈D/\x.t∈D)->yA D none (xN l)
 |[],_=>⟨λ_ _ _ _ _ _ _ _=>rfl,λt ht=>absurd rfl ht⟩
 |x::l,hl=>by
  have ih:=iX h (l:=l) λy hy=>hl y (List.mem_cons_of_mem _ hy);have hx:=hl x (by simp);refine⟨λi a c ha hc t h1 h2=>?_,λt ht=>?_⟩
  ·have e1:=qC h ha hc hx.1
   have e2:=qC h ha hc hx.2
   by_cases k:x.f<=a/\a<x.t
   ·rw[ut k,ut (by omega)]
   rw[xC k,xC (by omega)];exact ih.const i a c ha hc t h1 h2
  by_cases k:x.f<=t/\t<x.t
  ·exact⟨x.f,x.t,hx.1,hx.2,k.1,k.2⟩
  rw[xC k]at ht;exact ih.inside t ht
theorem yA.map2{α β γ:Type}{D:List Int}{na:α}{H:β}{nc:γ}{f:Int->α}{e:Int->β}(op:α->β->γ)(h0:op na H=nc)(G:yA D na f)(F:yA D H e):yA D nc λt=>op (f t) (e t):=by
 refine⟨λi a c C E t A B=>?_,λt I=>?_⟩
 ·simp only[G.const i a c C E t A B,F.const i a c C E t A B]
 by_cases k:f t=na
 ·refine F.inside t λJ=>I ?_
  simp only[k,J,h0]
 exact G.inside t k
theorem vV.fin{is:Int->Bool}{b a:Int}{D:List Int}{A:List zw}{i:Nat}(h:vV is b a A)(B:D.Pairwise (· < ·))(C:yA D false is)(F:D[0]?=some b)(E:D[i]?=some a)(hi:i+1=D.length):ya A/\∀t,zE A t=is t:=by
 refine⟨h.norm,λt=>?_⟩;rw[Bool.eq_iff_iff,h.has t];refine⟨λk=>k.2.2,λk=>?_⟩;obtain⟨p,q,G,H,I,J⟩:=C.inside t (by rw[k];simp);have:=rO B F G;have:=jl B E hi H;exact⟨by omega,by omega,k⟩
theorem qr.fin{B:Int->Option Int}{b a:Int}{D:List Int}{A:List zg}{i:Nat}(h:qr B b a A)(C:D.Pairwise (· < ·))(E:yA D none B)(G:D[0]?=some b)(F:D[i]?=some a)(hi:i+1=D.length):wL A/\∀t,xN A t=B t:=by
 refine⟨h.map,λt=>?_⟩;rw[h.tells t]
 split
 ·rfl
 rename_i hn
 refine(Classical.byContradiction λk=>?_:none=B t);obtain⟨p,q,H,I,J,K⟩:=E.inside t (λe=>k e.symm);have:=rO C G H;have:=jl C F hi I;exact hn ⟨by omega,by omega⟩
theorem yA.empty{α:Type}{no:α}{fn:Int->α}(h:yA [] no fn)(t:Int):fn t=no:=Classical.byContradiction λk=>by
 obtain⟨a,_,ha,_⟩:=h.inside t k;simp at ha
open Go.RowKit
def vQ(n lo hi:Int):Bool:=decide (lo<=n/\n<=hi)
def uN(l:zR)(h:Int):Bool:=decide (0<=l.f/\l.f<l.t/\l.t<=h/\1<=l.time/\l.time<=50/\0<=l.cost/\l.cost<=1000)
def yB(h:Int):Option Int->List zR->Int
 |_,[]=>0
 |p,l::r=>if uN l h=false then 1 else if (match p with|some q=>decide (l.f<q)|none=>false)=true then 5 else yB h (some l.t) r
theorem uO{h:Int}{p:Option Int}{l:zR}{r:List zR}(A:uN l h=false):yB h p (l::r)=1:=by simp[yB,A]
theorem sQ{h q:Int}{l:zR}{r:List zR}(A:uN l h=true)(B:l.f<q):yB h (some q) (l::r)=5:=by simp[yB,A,B]
theorem sR{h q:Int}{l:zR}{r:List zR}(A:uN l h=true)(B:¬l.f<q):yB h (some q) (l::r)=yB h (some l.t) r:=by simp[yB,A,B]
theorem rB{h:Int}{l:zR}{r:List zR}(A:uN l h=true):yB h none (l::r)=yB h (some l.t) r:=by simp[yB,A]
def oT(l:List zR):Nat->Option Int
 |0=>none
 |k+1=>(l[k]?).map zR.t
theorem vS{l:List zR}{k:Nat}{z:zR}(h:l[k]?=some z):oT l (k+1)=some z.t:=by simp[oT,h]
def yU(h n:Int)(x:zA):Int:=
 if vQ x.a 0 (n-1)=false∨vQ x.b 0 (n-1)=false then 4 else if 6<x.legs.length then 2 else yB h none x.legs
def yI(h n:Int):List zA->Int
 |[]=>0
 |x::r=>if yU h n x=0 then yI h n r else yU h n x
def vY(h:Int)(l:zw):Bool:=decide (0<=l.f/\l.f<l.t/\l.t<=h)
def zz(g:zf):Int:=
 if vQ g.h 1 100=false then 1 else if 12<g.lives.length∨30<g.edges.length then 2 else if g.lives.all (vY g.h)=false then 1 else yI g.h g.lives.length g.edges
theorem eY{g:zf}(h:vQ g.h 1 100=false):zz g=1:=by unfold zz;rw[if_pos h]
theorem sM{g:zf}(h:vQ g.h 1 100=true)(A:12<g.lives.length∨30<g.edges.length):zz g=2:=by unfold zz;rw[if_neg (by simp[h]),if_pos A]
theorem kw{g:zf}(h:vQ g.h 1 100=true)(A:¬(12<g.lives.length∨30<g.edges.length))(B:g.lives.all (vY g.h)=false):zz g=1:=by
 unfold zz;rw[if_neg (by simp[h]),if_neg A,if_pos B]
theorem qO{g:zf}(h:vQ g.h 1 100=true)(A:¬(12<g.lives.length∨30<g.edges.length))(B:g.lives.all (vY g.h)=true):zz g=yI g.h g.lives.length g.edges:=by
 unfold zz;rw[if_neg (by simp[h]),if_neg A,if_neg (by simp[B])]
theorem kr{h n:Int}{x:zA}{r:List zA}(A:yU h n x=0):yI h n (x::r)=yI h n r:=by rw[yI,if_pos A]
theorem jO{h n:Int}{x:zA}{r:List zA}(A:¬yU h n x=0):yI h n (x::r)=yU h n x:=by rw[yI,if_neg A]
theorem jA{α:Type}{p:α->Bool}{x:α}{r:List α}(h:p x=true):(x::r).all p=r.all p:=by simp[h]
theorem jz{α:Type}{p:α->Bool}{x:α}{r:List α}(h:p x=false):(x::r).all p=false:=by simp[h]
theorem fA{h:Int}{l:zw}(h1:0<=l.f/\l.f<l.t/\l.t<=h):vY h l=true:=by simp[vY,h1]
theorem im{h:Int}{l:zw}(h1:¬(0<=l.f/\l.f<l.t/\l.t<=h)):vY h l=false:=by simp only[vY,decide_eq_false_iff_not];exact h1
structure xW(g:zf)(x:zA):Prop where
 a0:0<=x.a
 a1:x.a<g.lives.length
 b0:0<=x.b
 b1:x.b<g.lives.length
 six:x.legs.length<=6
 legs:∀l,l∈x.legs->0<=l.f/\l.f<l.t/\l.t<=g.h/\1<=l.time/\l.time<=50/\0<=l.cost/\l.cost<=1000
 err:yB g.h none x.legs=0
structure zx(g:zf):Prop where
 h0:1<=g.h
 h1:g.h<=100
 nl:g.lives.length<=12
 ne:g.edges.length<=30
 lives:∀l,l∈g.lives->0<=l.f/\l.f<l.t/\l.t<=g.h
 edges:∀x,x∈g.edges->xW g x
theorem fx{h:Int}:∀(l:List zR) (p:Option Int),yB h p l=0->∀x,x∈l->uN x h=true
 |[],_,_,x,hx=>by simp at hx
 |y::r,p,he,x,hx=>by
  have h1:uN y h=true:=by
   cases B:uN y h
   ·rw[uO B]at he;simp at he
   rfl
  have C:yB h (some y.t) r=0:=by
   cases p with
   |none=>rwa[rB h1]at he
   |some q=>
    by_cases A:y.f<q
    ·rw[sQ h1 A]at he;simp at he
    rwa[sR h1 A]at he
  rcases List.mem_cons.1 hx with rfl|hx
  ·exact h1
  exact fx r _ C x hx
theorem jP{h n:Int}:∀(l:List zA),yI h n l=0->∀x,x∈l->yU h n x=0
 |[],_,x,hx=>by simp at hx
 |y::r,he,x,hx=>by
  unfold yI at he
  split at he
  ·rename_i h1
   rcases List.mem_cons.1 hx with rfl|hx
   ·exact h1
   exact jP r he x hx
  contradiction
theorem fp{h n:Int}:∀(l:List zA),(∀x,x∈l->yU h n x=0)->yI h n l=0
 |[],_=>rfl
 |y::r,hh=>by rw[yI,if_pos (hh y (by simp))];exact fp r λx hx=>hh x (by simp[hx])
theorem uX{g:zf}(h:zz g=0):zx g:=by
 unfold zz at h
 split at h
 ·simp at h
 rename_i h1
 split at h
 ·simp at h
 rename_i h2
 split at h
 ·simp at h
 rename_i h3
 simp[vQ]at h1;simp[vY]at h3;refine⟨h1.1,h1.2,by omega,by omega,h3,λx C=>?_⟩;have A:=jP _ h x C;unfold yU at A
 split at A
 ·simp at A
 rename_i k1
 split at A
 ·simp at A
 rename_i k2
 simp[vQ]at k1;refine⟨by omega,by omega,by omega,by omega,by omega,λl B=>?_,A⟩;have:=fx _ _ A l B;simpa[uN]using this
theorem xK{g:zf}(h:zx g):zz g=0:=by
 have h1:=h.h0;have G:=h.h1;have H:=h.nl;have I:=h.ne;rw[qO (by simp[vQ];omega) (by omega) (by simp[vY];exact h.lives)];refine fp _ λx A=>?_;have e:=h.edges x A;have B:=e.a0;have C:=e.a1;have D:=e.b0;have E:=e.b1;have F:=e.six;unfold yU;rw[if_neg (by simp[vQ];omega),if_neg (by omega)];exact e.err
def zn(g:zf)(v t:Int):Bool:=match g.lives[v.toNat]? with
 |some l=>decide (l.f<=t/\t<l.t)
 |none=>false
theorem lC{g:zf}{v t:Int}{l:zw}(h:g.lives[v.toNat]?=some l):zn g v t=decide (l.f<=t/\t<l.t):=by simp[zn,h]
def yC(t:Int):List zR->Option zR
 |[]=>none
 |x::l=>if x.f<=t/\t<x.t then some x else yC t l
theorem jc{t:Int}{x:zR}{l:List zR}(h:x.f<=t/\t<x.t):yC t (x::l)=some x:=by simp[yC,h]
theorem mZ{t:Int}{x:zR}{l:List zR}(h:¬(x.f<=t/\t<x.t)):yC t (x::l)=yC t l:=by rw[yC,if_neg h]
theorem rn{t:Int}{x:zR}:∀{l:List zR},yC t l=some x->x∈l/\x.f<=t/\t<x.t
 |[],h=>by simp[yC]at h
 |y::l,h=>by
  unfold yC at h
  split at h
  ·rename_i h1
   obtain rfl:y=x:=by simpa using h
   exact⟨by simp,h1⟩
  have:=rn h;exact⟨by simp[this.1],this.2⟩
def zF(g:zf)(x:zA)(t:Int):Option (zR×Int):=match yC t x.legs with
 |some l=>if zn g x.a t=true/\t+l.time<g.h/\zn g x.b (t+l.time)=true then some (l,t+l.time) else none
 |none=>none
theorem bU{g:zf}{x:zA}{t:Int}(h:yC t x.legs=none):zF g x t=none:=by simp[zF,h]
theorem bV{g:zf}{x:zA}{t:Int}{l:zR}(h:yC t x.legs=some l) :
  zF g x t=if zn g x.a t=true/\t+l.time<g.h/\zn g x.b (t+l.time)=true then some (l,t+l.time) else none:=by simp[zF,h]
def zm(g:zf)(v t:Int):Int:=
 if zz g=0 then (if vQ v 0 (g.lives.length-1)=true then (if vQ t 0 (g.h-1)=true then 0 else 1) else 4) else zz g
theorem dX{g:zf}{v t:Int}(h:¬zz g=0):zm g v t=zz g:=by unfold zm;rw[if_neg h]
theorem dZ{g:zf}{v t:Int}(h:zz g=0)(A:vQ v 0 (g.lives.length-1)=false):zm g v t=4:=by unfold zm;rw[if_pos h,if_neg (by simp[A])]
theorem dY{g:zf}{v t:Int}(h:zz g=0)(A:vQ v 0 (g.lives.length-1)=true)(B:vQ t 0 (g.h-1)=false):zm g v t=1:=by
 unfold zm;rw[if_pos h,if_pos A,if_neg (by simp[B])]
theorem ji{g:zf}{v t:Int}(h:zz g=0)(A:vQ v 0 (g.lives.length-1)=true)(B:vQ t 0 (g.h-1)=true):zm g v t=0:=by
 unfold zm;rw[if_pos h,if_pos A,if_pos B]
theorem uR{g:zf}{v t:Int}(h:zm g v t=0):zx g/\(0<=v/\v<g.lives.length)/\0<=t/\t<g.h:=by
 unfold zm at h
 split at h
 ·rename_i h1
  split at h
  ·rename_i h2
   split at h
   ·rename_i h3
    simp[vQ]at h2 h3;exact⟨uX h1,by omega,by omega⟩
   simp at h
  simp at h
 contradiction
theorem xh(n lo hi:Int)(w:World):Calls Tryz.prog 82 #[.int .i64 n,.int .i64 lo,.int .i64 hi] w λe A=>e=.returned (.bool (vQ n lo hi))/\w=A:=by
 go_enter Tryz.func82,Tryz.ntmps82
 go_wp2
 all_goals go_ret
 all_goals exact⟨yW (by rw[Bool.eq_iff_iff];simp[vQ];try omega),rfl⟩
theorem lN{n lo hi:Int}(h:lo<=n/\n<=hi):vQ n lo hi=true:=by simp[vQ,h]
theorem nI{n lo hi:Int}(h:¬(lo<=n/\n<=hi)):vQ n lo hi=false:=by simp only[vQ,decide_eq_false_iff_not];exact h
theorem sO{n lo hi:Int}:vQ n lo hi=true↔lo<=n/\n<=hi:=by simp[vQ]
theorem Xp{n lo hi:Int}:vQ n lo hi=false↔¬(lo<=n/\n<=hi):=by simp only[vQ,decide_eq_false_iff_not]
theorem VK{l:zR}{h:Int}(h1:0<=l.f/\l.f<l.t/\l.t<=h/\1<=l.time/\l.time<=50/\0<=l.cost/\l.cost<=1000):uN l h=true:=by simp[uN,h1]
theorem la{l:zR}{h:Int}(h1:¬(0<=l.f/\l.f<l.t/\l.t<=h/\1<=l.time/\l.time<=50/\0<=l.cost/\l.cost<=1000)):uN l h=false:=by
 simp only[uN,decide_eq_false_iff_not];exact h1
theorem TC{h n:Int}{x:zA}(A:vQ x.a 0 (n-1)=false):yU h n x=4:=by unfold yU;rw[if_pos (.inl A)]
theorem TD{h n:Int}{x:zA}(A:vQ x.b 0 (n-1)=false):yU h n x=4:=by unfold yU;rw[if_pos (.inr A)]
theorem TB{h n:Int}{x:zA}(h1:vQ x.a 0 (n-1)=true)(A:vQ x.b 0 (n-1)=true)(B:6<x.legs.length):yU h n x=2:=by
 unfold yU;rw[if_neg (by simp[h1,A]),if_pos B]
theorem TE{h n:Int}{x:zA}(h1:vQ x.a 0 (n-1)=true)(A:vQ x.b 0 (n-1)=true)(B:¬6<x.legs.length):yU h n x=yB h none x.legs:=by
 unfold yU;rw[if_neg (by simp[h1,A]),if_neg B]
def zL(n:Int):Bool:=vQ n (-1000000000) 1000000000
structure xx(l:List zw):Prop where
 norm:ya l
 near:∀x,x∈l->zL x.f=true/\zL x.t=true
open Classical in
noncomputable def yw(l:List zw):Int:=if 200<l.length then 2 else if xx l then 0 else 5
section
variable {l:List zw}{x y:zw}{k:Nat}
theorem wQ{n:Int}:zL n=true↔-1000000000<=n/\n<=1000000000:=sO
theorem iE(h:200<l.length):yw l=2:=if_pos h
theorem aR(h:¬200<l.length)(A:xx l):yw l=0:=by unfold yw;rw[if_neg h,if_pos A]
theorem cy(h:¬200<l.length)(A:¬xx l):yw l=5:=by unfold yw;rw[if_neg h,if_neg A]
theorem li(h:yw l=0):¬200<l.length/\xx l:=by
 by_cases A:200<l.length
 ·rw[iE A]at h;simp at h
 by_cases B:xx l
 ·exact⟨A,B⟩
 rw[cy A B]at h;simp at h
theorem xx.nil:xx []:=⟨.nil,λx h=>by simp at h⟩
theorem xx.take(h:xx l)(k:Nat):xx (l.take k):=
 ⟨⟨h.norm.1.sublist (List.take_sublist k l),λx hx=>h.norm.2 x (List.mem_of_mem_take hx)⟩,λx hx=>h.near x (List.mem_of_mem_take hx)⟩
theorem wC(A:l[k]?=some x):l.take (k+1)=l.take k++[x]:=by rw[List.take_add_one,A];rfl
theorem xx.first(D:l[0]?=some x)(h1:zL x.f=true)(B:zL x.t=true)(C:x.f<x.t):xx (l.take 1):=by
 rw[wC D];have e:∀y,y∈l.take 0++[x]->y=x:=λy A=>by simpa using A
 exact⟨⟨by simp,λy A=>by rw[e y A];exact C⟩,λy A=>by rw[e y A];exact⟨h1,B⟩⟩
theorem xx.next(h:xx (l.take (k+1)))(C:l[k]?=some y)(F:l[k+1]?=some x)(h1:zL x.f=true)(D:zL x.t=true)(E:x.f<x.t)(G:y.t<x.f):xx (l.take (k+2)):=by
 rw[wC F];have B:=h.norm;rw[wC C]at B;refine⟨h.norm.snoc E λz A=>?_,λz A=>?_⟩
 ·rw[wC C]at A
  have:=B.rise z A;omega
 rcases List.mem_append.1 A with A|A
 ·exact h.near z A
 obtain rfl:z=x:=by simpa using A
 exact⟨h1,D⟩
theorem xx.at_(h:xx l)(B:l[k]?=some x):zL x.f=true/\zL x.t=true/\x.f<x.t:=by
 have A:=List.mem_of_getElem? B;exact⟨(h.near x A).1,(h.near x A).2,h.norm.2 x A⟩
theorem xx.gap(h:xx l)(F:l[k]?=some y)(E:l[k+1]?=some x):y.t<x.f:=by
 obtain⟨A,B⟩:=List.getElem?_eq_some_iff.1 F;obtain⟨C,D⟩:=List.getElem?_eq_some_iff.1 E;have:=List.pairwise_iff_getElem.1 h.norm.1 k (k+1) A C (by omega);rw[B,D]at this;exact this
def pX(l out:List zw):Prop:=ya out/\∀t,zE out t=zE l t
theorem pX.eq{out r:List zw}(h:pX l out)(k:pX l r):out=r:=rL h.1 k.1 λt=>(h.2 t).trans (k.2 t).symm
theorem Vp{t:Int}:zE (l.filter λx=>decide (x.f<x.t)) t=zE l t:=by
 rw[Bool.eq_iff_iff,xD,xD]
 constructor
 ·rintro⟨x,C,A,B⟩
  exact⟨x,(List.mem_filter.1 C).1,A,B⟩
 rintro⟨x,C,A,B⟩;exact⟨x,List.mem_filter.2 ⟨C,by simp;omega⟩,A,B⟩
theorem Qi{l r:List zw}(h:∀x,x∈l↔x∈r)(t:Int):zE l t=zE r t:=by
 rw[Bool.eq_iff_iff,xD,xD]
 constructor
 ·rintro⟨x,B,A⟩;exact⟨x,(h x).1 B,A⟩
 rintro⟨x,B,A⟩;exact⟨x,(h x).2 B,A⟩
end
structure uG(a b:List zw)(i j:Nat)(out:List zw):Prop where
 norm:ya out
 has:∀t,zE out t=true↔(zE a t=true/\zE b t=true)/\¬(zE (a.drop i) t=true/\zE (b.drop j) t=true)
 low:∀o,o∈out->∀x y,a[i]?=some x->b[j]?=some y->o.t<max x.f y.f
section
variable {a b out:List zw}{i j:Nat}{x y:zw}
theorem kV{l:List zw}{k:Nat}{x:zw}(h:l[k]?=some x):l.drop k=x::l.drop (k+1):=by
 obtain⟨A,B⟩:=List.getElem?_eq_some_iff.1 h;rw[<-B];exact List.drop_eq_getElem_cons A
theorem ya.drop{l:List zw}(h:ya l)(k:Nat):ya (l.drop k):=⟨h.1.sublist (List.drop_sublist k l),λx hx=>h.2 x (List.mem_of_mem_drop hx)⟩
theorem uG.start:uG a b 0 0 []:=⟨.nil,λt=>by simp[qt],λo h=>by simp at h⟩
theorem uG.flip(h:uG a b i j out):uG b a j i out:=⟨h.norm,λt=>by rw[h.has t];simp only[and_comm],λo ho x y hx hy=>by have:=h.low o ho y x hy hx;omega⟩
theorem uG.stepA(h:uG a b i j out)(X:ya a)(Y:ya b)(N:a[i]?=some x)(H:b[j]?=some y)(Z:x.t<=y.t){I:List zw}
  (B:I=if max x.f y.f<min x.t y.t then out++[⟨max x.f y.f,min x.t y.t⟩] else out):uG a b (i+1) j I:=by
 have d:=X.2 x (List.mem_of_getElem? N);have g:=Y.2 y (List.mem_of_getElem? H);have O:=kV N;have L:=kV H;have M:=X.drop i;have P:=Y.drop j;rw[O]at M;rw[L]at P;have U:∀t,zE (b.drop j) t=true->t<x.t->y.f<=t:=λt A _=>by rw[L]at A;exact P.low A
 have Q:∀t,(zE (a.drop i) t=true/\zE (b.drop j) t=true)↔(zE (a.drop (i+1)) t=true/\zE (b.drop j) t=true)∨(max x.f y.f<=t/\t<min x.t y.t):=λt=>by
  rw[O,xc]
  constructor
  ·rintro⟨A|A,C⟩
   ·right
    have:=U t C A.2;omega
   exact .inl ⟨A,C⟩
  rintro(⟨A,C⟩|A)
  ·exact⟨.inr A,C⟩
  exact⟨.inl (by omega),by rw[L];exact xc.2 (.inl (by omega))⟩
 have V:∀t,(max x.f y.f<=t/\t<min x.t y.t)->zE a t=true/\zE b t=true:=λt c=>
  ⟨xD.2 ⟨x,List.mem_of_getElem? N,by omega,by omega⟩,xD.2 ⟨y,List.mem_of_getElem? H,by omega,by omega⟩⟩
 have R:∀t,(max x.f y.f<=t/\t<min x.t y.t)->¬(zE (a.drop (i+1)) t=true/\zE (b.drop j) t=true):=λt c A=>by
  have:=M.past A.1;omega
 have D:∀J,a[i+1]?=some J->x.t<J.f:=λJ E=>by
  have e:=kV E;exact(List.pairwise_cons.1 M.1).1 J (by rw[e];simp)
 by_cases S:max x.f y.f<min x.t y.t
 ·rw[if_pos S]at B
  subst B;refine⟨h.norm.snoc S λo G=>h.low o G x y N H,λt=>?_,λo G J W E F=>?_⟩
  ·rw[uk,h.has t,Q t]
   simp only
   constructor
   ·rintro(⟨A,C⟩|A)
    ·exact⟨A,λK=>C (.inl K)⟩
    exact⟨V t A,R t A⟩
   rintro⟨A,C⟩
   by_cases K:max x.f y.f<=t/\t<min x.t y.t
   ·exact .inr K
   exact .inl ⟨A,λT=>T.elim C K⟩
  have A:=D J E;obtain rfl:y=W:=by rw[H]at F;simpa using F
  rcases List.mem_append.1 G with G|G
  ·have:=h.low o G x y N H
   omega
  obtain rfl:o=_:=by simpa using G
  simp only;omega
 rw[if_neg S]at B;subst B;refine⟨h.norm,λt=>?_,λo G J W E F=>?_⟩
 ·rw[h.has t,Q t]
  constructor
  ·rintro⟨A,C⟩
   exact⟨A,λK=>C (.inl K)⟩
  rintro⟨A,C⟩;refine⟨A,λT=>T.elim C λK=>S (by omega)⟩
 have A:=D J E;obtain rfl:y=W:=by rw[H]at F;simpa using F
 have:=h.low o G x y N H;omega
theorem uG.stepB(h:uG a b i j out)(ha:ya a)(hb:ya b)(hx:a[i]?=some x)(hy:b[j]?=some y)(hle:y.t<=x.t){out':List zw}
  (hout:out'=if max x.f y.f<min x.t y.t then out++[⟨max x.f y.f,min x.t y.t⟩] else out):uG a b i (j+1) out':=
 (h.flip.stepA hb ha hy hx hle (by rw[hout,show max y.f x.f=max x.f y.f by omega,show min y.t x.t=min x.t y.t by omega])).flip
theorem uG.fin(h:uG a b i j out)(A:a.length<=i∨b.length<=j):ya out/\∀t,zE out t=(zE a t && zE b t):=by
 refine⟨h.norm,λt=>?_⟩;rw[Bool.eq_iff_iff,h.has t,Bool.and_eq_true];refine⟨λk=>k.1,λk=>⟨k,λB=>?_⟩⟩;rcases A with A|A
 ·rw[List.drop_of_length_le A]at B;simp[qt]at B
 rw[List.drop_of_length_le A]at B;simp[qt]at B
end
structure Zo(b:List zw)(k:Nat)(m:Int)(out:List zw):Prop where
 norm:ya out
 has:∀t,zE out t=true↔-1000000000<=t/\t<m/\¬zE (b.take k) t=true
 low:∀o,o∈out->o.t<m
 m0:-1000000000<=m
 m1:m<=1000000000
 next:∀x,b[k]?=some x->m<=x.f
 prev:∀t,zE (b.take k) t=true->t<m
section
variable {b out:List zw}{k:Nat}{m:Int}{x:zw}
theorem Zo.start(h:xx b):Zo b 0 (-1000000000) []:=
 ⟨.nil,λt=>⟨λh=>by simp[qt]at h,λh=>by omega⟩,λo h=>by simp at h,by omega,by omega,λx hx=>(wQ.1 (h.at_ hx).1).1,λt h=>by simp[qt]at h⟩
theorem cM{t:Int}(A:b[k]?=some x):zE (b.take (k+1)) t=true↔zE (b.take k) t=true∨(x.f<=t/\t<x.t):=by rw[wC A,uk]
theorem Zo.step(h:Zo b k m out)(O:xx b)(H:b[k]?=some x){F:List zw}(A:F=if m<x.f then out++[⟨m,x.f⟩] else out):Zo b (k+1) x.t F:=by
 obtain⟨M,N,P⟩:=O.at_ H;have M:=wQ.1 M;have N:=wQ.1 N;have T:=h.next x H;have I:∀y,b[k+1]?=some y->x.t<=y.f:=λy R=>by have:=O.gap H R;omega
 have J:∀t,zE (b.take (k+1)) t=true->t<x.t:=λt Q=>by
  rcases(cM H).1 Q with B|B
  ·have:=h.prev t B;omega
  exact B.2
 by_cases L:m<x.f
 ·rw[if_pos L]at A
  subst A;refine⟨h.norm.snoc L h.low,λt=>?_,λo G=>?_,by omega,by omega,I,J⟩
  ·rw[uk,h.has t,cM H]
   simp only;have S:=h.m0
   constructor
   ·rintro(⟨B,K,C⟩|B)
    ·exact⟨B,by omega,λD=>D.elim C λE=>by omega⟩
    refine⟨by omega,by omega,λD=>D.elim (λE=>?_) λE=>by omega⟩;have:=h.prev t E;omega
   rintro⟨B,K,C⟩
   by_cases D:t<m
   ·exact .inl ⟨B,D,λE=>C (.inl E)⟩
   right
   refine⟨by omega,Classical.byContradiction λE=>C (.inr ⟨by omega,K⟩)⟩
  rcases List.mem_append.1 G with G|G
  ·have:=h.low o G;omega
  obtain rfl:o=_:=by simpa using G
  exact P
 rw[if_neg L]at A;subst A;refine⟨h.norm,λt=>?_,λo G=>by have:=h.low o G;omega,by omega,by omega,I,J⟩;rw[h.has t,cM H]
 constructor
 ·rintro⟨B,K,C⟩
  exact⟨B,by omega,λD=>D.elim C λE=>by omega⟩
 rintro⟨B,K,C⟩;refine⟨B,Classical.byContradiction λE=>C (.inr ⟨by omega,K⟩),λD=>C (.inl D)⟩
theorem Zo.fin(h:Zo b k m out)(I:b.length<=k){B:List zw}(A:B=if m<1000000000 then out++[⟨m,1000000000⟩] else out):ya B/\∀t,zE B t=true↔-1000000000<=t/\t<1000000000/\¬zE b t=true:=by
 have e:b.take k=b:=List.take_of_length_le I;have D:=h.has;have G:=h.prev;rw[e]at D G;have L:=h.m0;have M:=h.m1
 by_cases E:m<1000000000
 ·rw[if_pos E]at A
  subst A;refine⟨h.norm.snoc E h.low,λt=>?_⟩;rw[uk,D t];simp only
  constructor
  ·rintro(⟨C,H,F⟩|C)
   ·exact⟨C,by omega,F⟩
   exact⟨by omega,by omega,λK=>by have:=G t K;omega⟩
  rintro⟨C,H,F⟩
  by_cases J:t<m
  ·exact .inl ⟨C,J,F⟩
  exact .inr ⟨by omega,H⟩
 rw[if_neg E]at A;subst A;refine⟨h.norm,λt=>?_⟩;rw[D t,show m=1000000000 by omega]
theorem xx.inside(h:xx b){t:Int}(B:zE b t=true):-1000000000<=t/\t<1000000000:=by
 obtain⟨x,A,C,D⟩:=xD.1 B;have:=wQ.1 (h.near x A).1;have:=wQ.1 (h.near x A).2;omega
end
theorem aL{α:Type}[DecidableEq α]:∀{l r:List α},l.Nodup->(∀x,x∈l->x∈r)->l.length<=r.length
 |[],_,_,_=>Nat.zero_le _
 |x::l,r,hn,h=>by
  have hx:=h x (by simp);have hn':=List.nodup_cons.1 hn;have ih:=aL (l:=l) (r:=r.erase x) hn'.2 λy hy=>(List.mem_erase_of_ne (show y≠x from λe=>hn'.1 (e ▸ hy))).2 (h y (List.mem_cons_of_mem _ hy));rw[List.length_erase_of_mem hx]at ih;have:=List.length_pos_of_mem hx;simp only[List.length_cons];omega
def ks(l:List zw):List Int:=l.map zw.f++l.map zw.t
section
variable {l r u a b:List zw}{x y:zw}{t:Int}
theorem ya.at_(_:ya l)(hx:x∈l)(h1:x.f<=t)(h2:t<x.t):zE l t=true:=xD.2 ⟨x,hx,h1,h2⟩
theorem ya.gapF(h:ya l)(D:x∈l):zE l (x.f-1)=false:=by
 rw[Bool.eq_false_iff];intro E;obtain⟨y,G,H,I⟩:=xD.1 E;have F:=h.2 x D;obtain⟨i,B,rfl⟩:=List.mem_iff_getElem.1 D;obtain⟨j,C,rfl⟩:=List.mem_iff_getElem.1 G;rcases Nat.lt_trichotomy i j with A|A|A
 ·have:=List.pairwise_iff_getElem.1 h.1 i j B C A;omega
 ·subst A;omega
 have:=List.pairwise_iff_getElem.1 h.1 j i C B A;omega
theorem ya.gapT(h:ya l)(D:x∈l):zE l x.t=false:=by
 rw[Bool.eq_false_iff];intro E;obtain⟨y,G,H,I⟩:=xD.1 E;have F:=h.2 x D;obtain⟨i,B,rfl⟩:=List.mem_iff_getElem.1 D;obtain⟨j,C,rfl⟩:=List.mem_iff_getElem.1 G;rcases Nat.lt_trichotomy i j with A|A|A
 ·have:=List.pairwise_iff_getElem.1 h.1 i j B C A;omega
 ·subst A;omega
 have:=List.pairwise_iff_getElem.1 h.1 j i C B A;omega
theorem Yi(h1:zE l t=true)(h0:zE l (t-1)=false):t∈l.map zw.f:=by
 obtain⟨x,A,C,D⟩:=xD.1 h1;refine List.mem_map.2 ⟨x,A,?_⟩;refine Classical.byContradiction λB=>?_;rw[xD.2 ⟨x,A,by omega,by omega⟩]at h0;simp at h0
theorem Zd(h1:zE l t=false)(h0:zE l (t-1)=true):t∈l.map zw.t:=by
 obtain⟨x,A,C,D⟩:=xD.1 h0;refine List.mem_map.2 ⟨x,A,?_⟩;refine Classical.byContradiction λB=>?_;rw[xD.2 ⟨x,A,by omega,by omega⟩]at h1;simp at h1
theorem ya.nodup(h:ya l):(l.map zw.f).Nodup:=by
 refine List.pairwise_map.2 (List.Pairwise.imp_of_mem (λ{x y} hx hy hxy=>?_) h.1);have:=h.2 x hx;intro e;omega
theorem ya.count(h:ya u){S:List Int}(B:∀t,zE u t=true->zE u (t-1)=false->t∈S):u.length<=S.length:=by
 have:=aL h.nodup (r:=S) λt C=>by
  obtain⟨x,A,rfl⟩:=List.mem_map.1 C;exact B _ (h.at_ A (Int.le_refl _) (h.2 x A)) (h.gapF A)
 simpa using this
theorem XS{op:Bool->Bool->Bool}(G:∀t,zE u t=op (zE a t) (zE b t))(h:zE u t≠zE u (t-1)):t∈ks a∨t∈ks b:=by
 rw[G,G]at h;have B:∀l:List zw,zE l t≠zE l (t-1)->t∈ks l:=λl D=>by
  unfold ks
  cases C:zE l t
  ·cases A:zE l (t-1)
   ·rw[C,A]at D;exact absurd rfl D
   exact List.mem_append_right _ (Zd C A)
  cases A:zE l (t-1)
  ·exact List.mem_append_left _ (Yi C A)
  rw[C,A]at D;exact absurd rfl D
 by_cases E:zE a t=zE a (t-1)
 ·by_cases F:zE b t=zE b (t-1)
  ·rw[E,F]at h;exact absurd rfl h
  exact .inr (B b F)
 exact .inl (B a E)
end
structure Of(p:Int->Bool)(n:Nat)(l:List zw):Prop where
 norm:ya l
 has:∀t,zE l t=p t
 near:∀x,x∈l->zL x.f=true/\zL x.t=true
 len:l.length<=n
section
variable {p q r:Int->Bool}{n m:Nat}{l a b u out:List zw}{op:Bool->Bool->Bool}{er:Int}
theorem Of.ok(h:Of p n l)(hn:n<=200):yw l=0:=aR (by have:=h.len;omega) ⟨h.norm,h.near⟩
theorem Of.setOk(h:Of p n l):xx l:=⟨h.norm,h.near⟩
theorem Of.eq(h:Of p n l)(k:Of q m u)(e:∀t,p t=q t):l=u:=rL h.norm k.norm λt=>by rw[h.has,k.has,e]
theorem Of.nil:Of (λ_=>false) 0 []:=⟨.nil,λ_=>rfl,λx h=>by simp at h,Nat.le_refl _⟩
theorem Of.le(h:Of p n l)(hnm:n<=m):Of p m l:=⟨h.norm,h.has,h.near,Nat.le_trans h.len hnm⟩
theorem xx.of(h:xx l)(hn:l.length<=n):Of (zE l) n l:=⟨h.norm,λ_=>rfl,h.near,hn⟩
theorem PN(F:xx a)(G:xx b)(D:ya u)(h:∀t,zE u t=op (zE a t) (zE b t)):∀x,x∈u->zL x.f=true/\zL x.t=true:=by
 have B:∀l:List zw,xx l->∀t,t∈ks l->zL t=true:=λl H t C=>by
  rcases List.mem_append.1 C with C|C
  ·obtain⟨x,A,rfl⟩:=List.mem_map.1 C;exact(H.near x A).1
  obtain⟨x,A,rfl⟩:=List.mem_map.1 C;exact(H.near x A).2
 intro x A;have E:=D.2 x A;have I:zE u x.f≠zE u (x.f-1):=by rw[D.at_ A (Int.le_refl _) E,D.gapF A];simp
 have J:zE u x.t≠zE u (x.t-1):=by rw[D.at_ A (by omega:x.f<=x.t-1) (by omega),D.gapT A];simp
 exact⟨(XS h I).elim (B a F _) (B b G _),(XS h J).elim (B a F _) (B b G _)⟩
end
def yu(op:Bool->Bool->Bool)(a b:List zw)(er:Int)(out:List zw):Prop:=
 if yw a=0 then if yw b=0 then ∃U,ya U/\(∀t,zE U t=op (zE a t) (zE b t))/\er=(if 200<U.length then 2 else 0)/\out=(if 200<U.length then [] else U)
 else er=yw b/\out=[] else er=yw a/\out=[]
def kE(x y:Bool):Bool:=x && !y
section
variable {p q r:Int->Bool}{n m:Nat}{l a b u out out':List zw}{op:Bool->Bool->Bool}{er er':Int}
theorem yu.badA(h:yw a≠0):yu op a b (yw a) []:=by unfold yu;rw[if_neg h];exact⟨rfl,rfl⟩
theorem yu.badB(h:yw a=0)(A:yw b≠0):yu op a b (yw b) []:=by unfold yu;rw[if_pos h,if_neg A];exact⟨rfl,rfl⟩
theorem yu.large(h:yw a=0)(C:yw b=0)(B:ya u)(D:∀t,zE u t=op (zE a t) (zE b t))(A:200<u.length):yu op a b 2 []:=by
 unfold yu;rw[if_pos h,if_pos C];exact⟨u,B,D,by rw[if_pos A],by rw[if_pos A]⟩
theorem yu.good(h:yw a=0)(C:yw b=0)(B:ya u)(D:∀t,zE u t=op (zE a t) (zE b t))(A:¬200<u.length):yu op a b 0 u:=by
 unfold yu;rw[if_pos h,if_pos C];exact⟨u,B,D,by rw[if_neg A],by rw[if_neg A]⟩
theorem yu.same(h:yu op a b er out)(k:yu op a b er' out'):er=er'/\out=out':=by
 unfold yu at h k
 by_cases A:yw a=0
 ·rw[if_pos A]at h k
  by_cases B:yw b=0
  ·rw[if_pos B]at h k
   obtain⟨U,C,D,rfl,rfl⟩:=h;obtain⟨V,E,F,rfl,rfl⟩:=k;obtain rfl:U=V:=rL C E λt=>by rw[D,F]
   exact⟨rfl,rfl⟩
  rw[if_neg B]at h k;rw[h.1,h.2,k.1,k.2];exact⟨rfl,rfl⟩
 rw[if_neg A]at h k;rw[h.1,h.2,k.1,k.2];exact⟨rfl,rfl⟩
theorem yu.zero(h:yu op a b er out)(B:Of p n a)(C:Of q m b)(H:n<=200)(G:m<=200)(A:Of r 200 l)(F:∀t,op (p t) (q t)=r t):er=0/\out=l:=by
 unfold yu at h;rw[if_pos (B.ok H),if_pos (C.ok G)]at h;obtain⟨U,D,E,rfl,rfl⟩:=h;obtain rfl:U=l:=rL D A.norm λt=>by rw[E,B.has,C.has,F,A.has]
 have:=A.len;rw[if_neg (by omega),if_neg (by omega)];exact⟨rfl,rfl⟩
theorem yu.of_(h:yu op a b er out)(C:Of p n a)(D:Of q m b)(J:n<=200)(I:m<=200)(K:n+m<=200)
  (_:∀u,ya u->(∀t,zE u t=op (zE a t) (zE b t))->∀t,zE u t=true->zE u (t-1)=false->t∈a.map zw.f++b.map zw.f∨t∈a.map zw.f++b.map zw.t)
  (E:(∀u,ya u->(∀t,zE u t=op (zE a t) (zE b t))->∀t,zE u t=true->zE u (t-1)=false->t∈a.map zw.f++b.map zw.f)∨(∀u,ya u->(∀t,zE u t=op (zE a t) (zE b t))->∀t,zE u t=true->zE u (t-1)=false->t∈a.map zw.f++b.map zw.t)) :
  er=0/\Of (λt=>op (p t) (q t)) (n+m) out:=by
 unfold yu at h;rw[if_pos (C.ok J),if_pos (D.ok I)]at h;obtain⟨U,A,B,rfl,rfl⟩:=h;have G:=C.len;have H:=D.len;have F:U.length<=n+m:=by
  rcases E with k|k
  ·have:=A.count (k U A B);simp at this;omega
  have:=A.count (k U A B);simp at this;omega
 rw[if_neg (by omega),if_neg (by omega)];exact⟨rfl,A,λt=>by rw[B,C.has,D.has],PN C.setOk D.setOk A B,F⟩
end
def fM:List zw->Int
 |[]=>0
 |x::l=>(x.t-x.f)+fM l
def cnt(p:Int->Bool)(lo:Int):Nat->Int
 |0=>0
 |n+1=>cnt p lo n+if p (lo+n) then 1 else 0
section
variable {p q r s:Int->Bool}{l:List zw}{x:zw}{lo:Int}{n:Nat}
theorem YN:∀{n:Nat},(∀t,lo<=t->t<lo+n->p t=false)->cnt p lo n=0
 |0,_=>rfl
 |n+1,h=>by
  simp only[cnt];rw[YN λt h1 h2=>h t h1 (by omega),h (lo+n) (by omega) (by omega)];rfl
theorem YL(h:∀t,(if p t then (1:Int) else 0)+(if q t then 1 else 0)=(if r t then 1 else 0)+(if s t then 1 else 0)):∀n,cnt p lo n+cnt q lo n=cnt r lo n+cnt s lo n
 |0=>rfl
 |n+1=>by
  simp only[cnt];have:=YL h n;have:=h (lo+n);omega
theorem YM(h:∀t,(if p t then (1:Int) else 0)=(if r t then 1 else 0)+(if s t then 1 else 0)):∀n,cnt p lo n=cnt r lo n+cnt s lo n
 |0=>rfl
 |n+1=>by
  simp only[cnt];have:=YM h n;have:=h (lo+n);omega
theorem UN(a b:Int)(h1:lo<=a)(hab:a<=b):∀{n:Nat},cnt (λt=>decide (a<=t/\t<b)) lo n=max 0 (min b (lo+n)-a)
 |0=>by simp only[cnt];omega
 |n+1=>by
  simp only[cnt];rw[UN a b h1 hab (n:=n)]
  by_cases h:a<=lo+n/\lo+n<b
  ·rw[if_pos (by simpa using h)];push_cast;omega
  rw[if_neg (by simpa using h)];push_cast;omega
theorem YO:∀{l:List zw},ya l->(∀x,x∈l->lo<=x.f/\x.t<=lo+n)->cnt (zE l) lo n=fM l
 |[],_,_=>YN λ_ _ _=>rfl
 |x::l,h,hl=>by
  have hx:=hl x (by simp);have hxl:=h.2 x (by simp);rw[YM (r:=λt=>decide (x.f<=t/\t<x.t)) (s:=zE l) λt=>by
   cases h2:zE l t
   ·have:zE (x::l) t=decide (x.f<=t/\t<x.t):=by
     rw[Bool.eq_iff_iff,xc,h2];simp
    rw[this];simp
   have B:=h.past h2;have:zE (x::l) t=true:=xc.2 (.inr h2);rw[this];have:decide (x.f<=t/\t<x.t)=false:=by simp;omega
   rw[this];rfl]
  rw[UN _ _ hx.1 (by omega),YO h.tail λy A=>hl y (List.mem_cons_of_mem _ A)];simp only[fM];omega
end
theorem Of.size{p q:Int->Bool}{n m i j:Nat}{a b u v:List zw}(B:Of p n a)(C:Of q m b)(D:Of (λt=>p t || q t) i u)(E:Of (λt=>p t && q t) j v):fM a+fM b=fM u+fM v:=by
 have A:∀{r:Int->Bool} {k:Nat} {l:List zw},Of r k l->cnt (zE l) (-1000000000) 2000000000=fM l:=λh=>YO h.norm λx F=>by
  have G:=wQ.1 (h.near x F).1;have H:=wQ.1 (h.near x F).2;omega
 rw[<-A B,<-A C,<-A D,<-A E];refine YL (λt=>?_) _;rw[B.has,C.has,D.has,E.has]
 cases p t <;> cases q t <;> rfl
end Go.Proofs.YtjcimdpldlamfaaGreatDoor
