import Derived.Test.YtjcimdpldlamfaaGreatDoorBd407fff1090
namespace Go.Proofs.YtjcimdpldlamfaaGreatDoor
open Go.RowKit
def qm(g:zf)(v t:Int)(h:yy):Option (Int×Int×Int):=
 if vQ h.edge 0 (g.edges.length-1)=true then (match g.edges[h.edge.toNat]? with
  |some x=>if x.a=v/\t<=h.depart then (zF g x h.depart).map λp=>(x.b,p.2,p.1.cost) else none
  |none=>none) else none
theorem ar{g:zf}{v t:Int}{h:yy}(h1:vQ h.edge 0 (g.edges.length-1)=false):qm g v t h=none:=by unfold qm;rw[if_neg (by simp[h1])]
theorem db{g:zf}{v t:Int}{h:yy}{x:zA}(h1:vQ h.edge 0 (g.edges.length-1)=true)(A:g.edges[h.edge.toNat]?=some x) :
  qm g v t h=if x.a=v/\t<=h.depart then (zF g x h.depart).map λp=>(x.b,p.2,p.1.cost) else none:=by
 unfold qm;rw[if_pos h1,A]
theorem au{g:zf}{v t:Int}{h:yy}{x:zA}(h1:vQ h.edge 0 (g.edges.length-1)=true)(B:g.edges[h.edge.toNat]?=some x)(A:¬(x.a=v/\t<=h.depart)):qm g v t h=none:=by
 rw[db h1 B,if_neg A]
theorem dd{g:zf}{v t:Int}{h:yy}{x:zA}(h1:vQ h.edge 0 (g.edges.length-1)=true)(B:g.edges[h.edge.toNat]?=some x)(A:zF g x h.depart=none):qm g v t h=none:=by
 rw[db h1 B];split <;> simp[A]
theorem kY{g:zf}{v t to:Int}{h:yy}{x:zA}{l:zR}(h1:vQ h.edge 0 (g.edges.length-1)=true)(C:g.edges[h.edge.toNat]?=some x)(A:x.a=v/\t<=h.depart)
  (B:zF g x h.depart=some (l,to)):qm g v t h=some (x.b,to,l.cost):=by
 rw[db h1 C,if_pos A,B];rfl
def fY(g:zf):Int->Int->Int->List yy->Option (Int×Int×Int)
 |v,t,c,[]=>some (v,t,c)
 |v,t,c,h::r=>match qm g v t h with
  |some p=>fY g p.1 p.2.1 (c+p.2.2) r
  |none=>none
theorem oP{g:zf}{v t c:Int}{h:yy}{r:List yy}(A:qm g v t h=none):fY g v t c (h::r)=none:=by simp[fY,A]
theorem oQ{g:zf}{v t c a b d:Int}{h:yy}{r:List yy}(A:qm g v t h=some (a,b,d)):fY g v t c (h::r)=fY g a b (c+d) r:=by simp[fY,A]
def pE(g:zf)(v t:Int)(l:List yy):Int×Int×Int×Int:=
 if zm g v t=0 then (if 500<l.length then (0,0,0,2) else if zn g v t=true then (match fY g v t 0 l with
  |some p=>(p.1,p.2.1,p.2.2,0)
  |none=>(0,0,0,5)) else (0,0,0,5)) else (0,0,0,zm g v t)
theorem gj{g:zf}{v t:Int}{l:List yy}(h:¬zm g v t=0):pE g v t l=(0,0,0,zm g v t):=by unfold pE;rw[if_neg h]
theorem gg{g:zf}{v t:Int}{l:List yy}(h:zm g v t=0)(A:500<l.length):pE g v t l=(0,0,0,2):=by unfold pE;rw[if_pos h,if_pos A]
theorem eW{g:zf}{v t:Int}{l:List yy}(h:zm g v t=0)(A:¬500<l.length)(B:zn g v t=false):pE g v t l=(0,0,0,5):=by
 unfold pE;rw[if_pos h,if_neg A,if_neg (by simp[B])]
theorem eX{g:zf}{v t:Int}{l:List yy}(h:zm g v t=0)(A:¬500<l.length)(B:zn g v t=true)(C:fY g v t 0 l=none):pE g v t l=(0,0,0,5):=by
 unfold pE;rw[if_pos h,if_neg A,if_pos B,C]
theorem Xf{g:zf}{v t a b c:Int}{l:List yy}(h:zm g v t=0)(A:¬500<l.length)(B:zn g v t=true)(C:fY g v t 0 l=some (a,b,c)):pE g v t l=(a,b,c,0):=by
 unfold pE;rw[if_pos h,if_neg A,if_pos B,C]
def Oy(p:Int×Int×Int×Int):Value:=.tuple #[.int .i64 p.1,.int .i64 p.2.1,.int .i64 p.2.2.1,.int .i64 p.2.2.2]
theorem yh{g:zf}{x:zA}{t to:Int}{l:zR}(h:zF g x t=some (l,to)):l∈x.legs/\l.f<=t/\t<l.t/\to=t+l.time/\to<g.h/\zn g x.a t=true/\zn g x.b to=true:=by
 unfold zF at h
 cases A:yC t x.legs with
 |none=>rw[A]at h;simp at h
 |some y=>
  rw[A]at h;simp only at h
  split at h
  ·rename_i h1
   simp only[Option.some.injEq,Prod.mk.injEq]at h;obtain⟨rfl,rfl⟩:=h;have:=rn A;exact⟨this.1,this.2.1,this.2.2,rfl,h1.2.1,h1.1,h1.2.2⟩
  simp at h
def sc(h:yy):List Value:=[.int .i64 h.edge,.int .i64 h.depart]
def uC(g:zf)(v d:Int)(x:zA):Bool:=(zF g x d).isSome && decide (x.a=v)
theorem ZQ{g:zf}{v d:Int}{x:zA}(h:zF g x d=none):uC g v d x=false:=by simp[uC,h]
theorem ZR{g:zf}{v d:Int}{x:zA}{p:zR×Int}(h:zF g x d=some p)(A:x.a=v):uC g v d x=true:=by simp[uC,h,A]
theorem bB{g:zf}{v d:Int}{x:zA}(A:¬x.a=v):uC g v d x=false:=by simp[uC,A]
def uP(g:zf)(v d:Int):Nat->List zA->List yy
 |_,[]=>[]
 |i,x::r=>if uC g v d x=true then ⟨i,d⟩::uP g v d (i+1) r else uP g v d (i+1) r
theorem dR{g:zf}{v d:Int}{i:Nat}{x:zA}{r:List zA}(h:uC g v d x=true):uP g v d i (x::r)=⟨i,d⟩::uP g v d (i+1) r:=by rw[uP,if_pos h]
theorem gG{g:zf}{v d:Int}{i:Nat}{x:zA}{r:List zA}(h:uC g v d x=false):uP g v d i (x::r)=uP g v d (i+1) r:=by rw[uP,if_neg (by simp[h])]
def qZ(g:zf)(v:Int):Nat->Int->List yy
 |0,_=>[]
 |n+1,d=>uP g v d 0 g.edges++qZ g v n (d+1)
def gF(g:zf)(v t:Int):List yy:=if zn g v t=true then qZ g v (g.h-t).toNat t else []
def QL(g:zf)(v t:Int):List yy:=if zm g v t=0 then gF g v t else []
theorem jh{g:zf}{v d:Int}{h:yy}:∀(l:List zA) (i:Nat),h∈uP g v d i l↔h.depart=d/\∃k x,l[k]?=some x/\h.edge=((i+k:Nat):Int)/\uC g v d x=true
 |[],i=>by simp[uP]
 |y::l,i=>by
  have ih:=jh (g:=g) (v:=v) (d:=d) (h:=h) l (i+1);have key:(∃k x,(y::l)[k]?=some x/\h.edge=((i+k:Nat):Int)/\uC g v d x=true)↔(h.edge=(i:Int)/\uC g v d y=true)∨∃k x,l[k]?=some x/\h.edge=((i+1+k:Nat):Int)/\uC g v d x=true:=by
   constructor
   ·rintro⟨k,x,F,B,C⟩
    cases k with
    |zero=>
     have G:y=x:=by simpa using F
     exact .inl ⟨by simpa using B,by rw[G];exact C⟩
    |succ k=>exact .inr ⟨k,x,by simpa using F,by rw[B];congr 1;omega,C⟩
   rintro(⟨B,C⟩|⟨k,x,F,B,C⟩)
   ·exact⟨0,y,by simp,by simpa using B,C⟩
   exact⟨k+1,x,by simpa using F,by rw[B];congr 1;omega,C⟩
  cases E:uC g v d y
  ·rw[gG E,ih,key,E];simp
  rw[dR E,List.mem_cons,ih,key,E]
  constructor
  ·rintro(rfl|⟨D,A⟩)
   ·exact⟨rfl,.inl ⟨rfl,rfl⟩⟩
   exact⟨D,.inr A⟩
  rintro⟨D,⟨A,_⟩|A⟩
  ·left;cases h;simp at D A;simp[D,A]
  exact .inr ⟨D,A⟩
theorem dQ{g:zf}{v d:Int}:∀(l:List zA) (i:Nat),(uP g v d i l).length<=l.length
 |[],_=>by simp[uP]
 |y::l,i=>by
  have:=dQ (g:=g) (v:=v) (d:=d) l (i+1);unfold uP
  split <;> simp <;> omega
theorem aN{g:zf}{v:Int}:∀(n:Nat) (d:Int),(qZ g v n d).length<=n*g.edges.length
 |0,_=>by simp[qZ]
 |n+1,d=>by
  have h1:=aN (g:=g) (v:=v) n (d+1);have h2:=dQ (g:=g) (v:=v) (d:=d) g.edges 0;rw[qZ,List.length_append,Nat.succ_mul];omega
theorem aO{g:zf}{v:Int}{h:yy}:∀(n:Nat) (d:Int),h∈qZ g v n d↔d<=h.depart/\h.depart<d+n/\h∈uP g v h.depart 0 g.edges
 |0,d=>by simp[qZ];intros;omega
 |n+1,d=>by
  rw[qZ,List.mem_append,aO n (d+1)]
  constructor
  ·rintro(h1|⟨h1,h2,h3⟩)
   ·have:=(jh _ _).1 h1
    obtain⟨rfl,_⟩:=this;exact⟨by omega,by omega,h1⟩
   exact⟨by omega,by omega,h3⟩
  rintro⟨h1,h2,h3⟩
  by_cases e:h.depart=d
  ·left;rw[e]at h3;exact h3
  right;exact⟨by omega,by omega,h3⟩
theorem Vt{g:zf}{v t b to k:Int}{h:yy}(A:qm g v t h=some (b,to,k)) :
  ∃x B,0<=h.edge/\g.edges[h.edge.toNat]?=some x/\x.a=v/\t<=h.depart/\zF g x h.depart=some (B,to)/\b=x.b/\k=B.cost:=by
 unfold qm at A
 split at A
 ·rename_i h1
  have D:0<=h.edge:=by simp[vQ]at h1;omega
  split at A
  ·rename_i x hx
   split at A
   ·rename_i h3
    cases C:zF g x h.depart with
    |none=>rw[C]at A;simp at A
    |some p=>
     obtain⟨B,u⟩:=p;rw[C]at A;simp only[Option.map_some,Option.some.injEq,Prod.mk.injEq]at A;obtain⟨rfl,rfl,rfl⟩:=A;exact⟨x,B,D,hx,h3.1,h3.2,C,rfl,rfl⟩
   simp at A
  simp at A
 simp at A
theorem Ql{g:zf}{v t to:Int}{h:yy}{x:zA}{lg:zR}(h0:0<=h.edge)(hx:g.edges[h.edge.toNat]?=some x)(h1:x.a=v)(h2:t<=h.depart)(h3:zF g x h.depart=some (lg,to)) :
  qm g v t h=some (x.b,to,lg.cost):=
 kY (by have:=zy hx;simp[vQ];omega) hx ⟨h1,h2⟩ h3
theorem eV{g:zf}:∀(l:List yy) (v t c:Int),fY g v t c l=(fY g v t 0 l).map λp=>(p.1,p.2.1,c+p.2.2)
 |[],v,t,c=>by simp[fY]
 |h::l,v,t,c=>by
  cases hh:qm g v t h with
  |none=>rw[oP hh,oP hh];rfl
  |some p=>
   obtain⟨a,b,d⟩:=p;rw[oQ hh,oQ hh,eV l a b (c+d),eV l a b (0+d),Option.map_map]
   congr 1
   funext p
   simp;omega
def Yq(g:zf)(v t:Int):Prop:=0<=v/\v<g.lives.length/\0<=t/\t<g.h/\zn g v t=true
theorem Yq.place{g:zf}{v t:Int}(h:Yq g v t)(A:zx g):zm g v t=0:=by
 obtain⟨B,C,D,E,_⟩:=h;exact ji (xK A) (by simp[vQ];omega) (by simp[vQ];omega)
theorem Vs{g:zf}(E:zx g){v t b to k:Int}{h:yy}(h0:0<=t)(G:qm g v t h=some (b,to,k)):Yq g b to/\t<to/\0<=k/\k<=1000:=by
 obtain⟨x,J,K,I,L,M,F,rfl,rfl⟩:=Vt G;have B:=yh F;have A:=E.edges x (List.mem_of_getElem? I);have H:=A.legs J B.1;have C:=A.b0;have D:=A.b1;exact⟨⟨C,D,by omega,by omega,B.2.2.2.2.2.2⟩,by omega,by omega,by omega⟩
theorem Xe{g:zf}(A:zx g):∀(l:List yy) (v t c a b d:Int),Yq g v t->fY g v t c l=some (a,b,d)->Yq g a b/\t<=b/\c<=d/\d<=c+1000*l.length
 |[],v,t,c,a,b,d,h0,h=>by
  simp[fY]at h;obtain⟨rfl,rfl,rfl⟩:=h;exact⟨h0,by omega,by omega,by simp⟩
 |h::l,v,t,c,a,b,d,h0,hg=>by
  cases hh:qm g v t h with
  |none=>rw[oP hh]at hg;simp at hg
  |some p=>
   obtain⟨x,y,k⟩:=p;rw[oQ hh]at hg;have h1:=Vs A h0.2.2.1 hh;have h2:=Xe A l x y (c+k) a b d h1.1 hg;have e:((h::l).length:Int)=l.length+1:=by simp
   rw[e];exact⟨h2.1,by omega,by omega,by omega⟩
def zq:Int:=1099511627776
def oO(g:zf)(x:zA)(o:Option (Int×Int))(d:Int):Option (Int×Int):=match zF g x d with
 |some p=>(match o with
  |some q=>if p.2<q.2 then some (d,p.2) else o
  |none=>some (d,p.2))
 |none=>o
theorem eT{g:zf}{x:zA}{o:Option (Int×Int)}{d:Int}(h:zF g x d=none):oO g x o d=o:=by simp[oO,h]
theorem gf{g:zf}{x:zA}{d to:Int}{l:zR}(h:zF g x d=some (l,to)):oO g x none d=some (d,to):=by simp[oO,h]
theorem kW{g:zf}{x:zA}{d to a b:Int}{l:zR}(h:zF g x d=some (l,to))(A:to<b):oO g x (some (a,b)) d=some (d,to):=by simp[oO,h,A]
theorem kX{g:zf}{x:zA}{d to a b:Int}{l:zR}(h:zF g x d=some (l,to))(A:¬to<b):oO g x (some (a,b)) d=some (a,b):=by simp[oO,h,A]
def ot(g:zf)(x:zA):Nat->Int->Option (Int×Int)->Option (Int×Int)
 |0,_,o=>o
 |n+1,d,o=>ot g x n (d+1) (oO g x o d)
def first(g:zf)(x:zA)(t:Int):Option (Int×Int):=ot g x (g.h-t).toNat t none
theorem mQ{g:zf}{x:zA}:∀(n:Nat) (d:Int) (o:Option (Int×Int)),
  (ot g x n d o=none->o=none/\∀e,d<=e->e<d+n->zF g x e=none) /\
  (∀a b,ot g x n d o=some (a,b)->(o=some (a,b)∨d<=a/\a<d+n/\∃l,zF g x a=some (l,b))/\(∀p q,o=some (p,q)->b<=q)/\∀e l u,d<=e->e<d+n->zF g x e=some (l,u)->b<=u)
 |0,d,o=>⟨λh=>⟨h,λe A B=>by omega⟩,λa b h=>⟨.inl h,λp q G=>by
   rw[ot,G]at h;obtain⟨rfl,rfl⟩:p=a/\q=b:=by simpa using h
   exact Int.le_refl _,λe l u A B=>by omega⟩⟩
 |n+1,d,o=>by
  obtain⟨L,M⟩:=mQ n (d+1) (oO g x o d);refine⟨λh=>?_,λa b h=>?_⟩
  ·obtain⟨A,B⟩:=L h
   cases C:zF g x d with
   |none=>
    rw[eT C]at A;refine⟨A,λe J K=>?_⟩
    by_cases F:e=d
    ·rw[F];exact C
    exact B e (by omega) (by omega)
   |some p=>
    obtain⟨l,I⟩:=p
    cases o with
    |none=>rw[gf C]at A;simp at A
    |some q=>
     obtain⟨a,b⟩:=q
     by_cases D:I<b
     ·rw[kW C D]at A;simp at A
     rw[kX C D]at A;simp at A
  obtain⟨A,B,N⟩:=M a b h
  cases C:zF g x d with
  |none=>
   rw[eT C]at A B;refine⟨A.imp id λ⟨J,K,E⟩=>⟨by omega,by omega,E⟩,B,λe l u J K E=>?_⟩
   by_cases F:e=d
   ·rw[F,C]at E;simp at E
   exact N e l u (by omega) (by omega) E
  |some p=>
   obtain⟨l,I⟩:=p;have H:b<=I/\(∀p q,o=some (p,q)->b<=q)/\(oO g x o d=some (a,b)->o=some (a,b)∨a=d/\b=I):=by
    cases o with
    |none=>
     rw[gf C]at B⊢;exact⟨B _ _ rfl,λp q G=>by simp at G,λe=>.inr (by simp only[Option.some.injEq,Prod.mk.injEq]at e;omega)⟩
    |some q=>
     obtain⟨p,q⟩:=q
     by_cases D:I<q
     ·rw[kW C D]at B⊢
      have:=B _ _ rfl;refine⟨this,λQ R G=>?_,λe=>.inr (by simp only[Option.some.injEq,Prod.mk.injEq]at e;omega)⟩;simp only[Option.some.injEq,Prod.mk.injEq]at G;omega
     rw[kX C D]at B⊢;have:=B _ _ rfl;exact⟨by omega,B,λe=>.inl e⟩
   refine⟨?_,H.2.1,λe P u J K E=>?_⟩
   ·rcases A with A|⟨J,K,E⟩
    ·rcases H.2.2 A with O|⟨rfl,rfl⟩
     ·exact .inl O
     exact .inr ⟨Int.le_refl _,by omega,l,C⟩
    exact .inr ⟨by omega,by omega,E⟩
   by_cases F:e=d
   ·rw[F,C]at E
    simp only[Option.some.injEq,Prod.mk.injEq]at E;omega
   exact N e P u (by omega) (by omega) E
theorem zT{g:zf}(A:zx g){x:zA}(B:xW g x){t to:Int}{l:zR}(h:zF g x t=some (l,to)):0<=t/\t<to/\to<g.h/\to<=100:=by
 have h1:=yh h;have C:=B.legs l h1.1;have D:=A.h1;omega
theorem nD{g:zf}{x:zA}{t a b:Int}(h:first g x t=some (a,b)):t<=a/\(∃l,zF g x a=some (l,b))/\∀e l u,t<=e->zF g x e=some (l,u)->e<g.h->b<=u:=by
 obtain⟨A,_,B⟩:=(mQ _ _ _).2 a b h;rcases A with A|⟨k1,k2,k3⟩
 ·simp at A
 exact⟨k1,k3,λe l u C D E=>B e l u C (by omega) D⟩
theorem Vl{g:zf}{x:zA}{t:Int}(h:first g x t=none):∀e,t<=e->e<g.h->zF g x e=none:=
 λe h1 h2=>((mQ _ _ _).1 h).2 e h1 (by omega)
def rZ(g:zf)(x:zA)(t:Int):Int:=match first g x t with
 |some p=>p.2
 |none=>zq
theorem mN{g:zf}{x:zA}{t a b:Int}(h:first g x t=some (a,b)):rZ g x t=b:=by simp[rZ,h]
theorem fk{g:zf}{x:zA}{t:Int}(h:first g x t=none):rZ g x t=zq:=by simp[rZ,h]
section
variable {g:zf}{x:zA}
theorem hJ(C:zx g)(D:xW g x){t d to:Int}{l:zR}(h1:t<=d)(A:zF g x d=some (l,to)):rZ g x t<=to:=by
 have E:=zT C D A
 cases B:first g x t with
 |none=>
  have:=Vl B d h1 (by omega);rw[A]at this;simp at this
 |some p=>
  obtain⟨a,b⟩:=p;rw[mN B];exact(nD B).2.2 d l to h1 A (by omega)
theorem uZ(_:zx g)(_:xW g x)(t:Int):rZ g x t=zq∨∃d l B,t<=d/\zF g x d=some (l,B)/\rZ g x t=B/\first g x t=some (d,B):=by
 cases A:first g x t with
 |none=>exact .inl (fk A)
 |some p=>
  obtain⟨a,b⟩:=p;obtain⟨C,⟨l,D⟩,_⟩:=nD A;exact .inr ⟨a,l,b,C,D,mN A,rfl⟩
theorem fj(A:zx g)(B:xW g x):kj (rZ g x):=by
 intro s t D;rcases uZ A B t with h|⟨d,l,to,h1,h2,h3,_⟩
 ·rcases uZ A B s with C|⟨d,l,to,h1,h2,h3,_⟩
  ·rw[h,C];exact Int.le_refl _
  have:=zT A B h2;rw[h,h3];simp only[zq];omega
 rw[h3];exact hJ A B (by omega) h2
theorem oM(A:zx g)(B:xW g x){t:Int}(C:t<=zq):t<=rZ g x t:=by
 rcases uZ A B t with h|⟨d,l,to,h1,h2,h3,_⟩
 ·rw[h];exact C
 have:=zT A B h2;rw[h3];omega
theorem jM(hV:zx g)(hx:xW g x):zq<=rZ g x zq:=oM hV hx (Int.le_refl _)
end
def pq(g:zf)(x:zA):pU Nat:=⟨x.a.toNat,x.b.toNat,rZ g x⟩
def pC(g:zf):List (pU Nat):=g.edges.map (pq g)
def wZ(g:zf)(v t:Int):List Int:=(List.range g.lives.length).map λ(k:Nat)=>if zn g v t=true/\(k:Int)=v then t else zq
def yv(g:zf)(v t:Int)(l:List Int):Prop:=l.length=g.lives.length/\qp (·∈pC g) (gi (wZ g v t)) (gi l)
theorem yv.eq{g:zf}{v t:Int}{l r:List Int}(h:yv g v t l)(k:yv g v t r):l=r:=eU (h.1.trans k.1.symm) (h.2.eq k.2)
theorem tg{g:zf}{y:pU Nat}:y∈pC g↔∃x,x∈g.edges/\y=pq g x:=by
 simp only[pC,List.mem_map];exact⟨λ⟨x,h,e⟩=>⟨x,h,e.symm⟩,λ⟨x,h,e⟩=>⟨x,h,e.symm⟩⟩
theorem vh{n:Nat}{f:Nat->Int}{k:Nat}(h:k<n):gi ((List.range n).map f) k=f k:=vE (by simp[h])
theorem vD{n:Nat}{f:Nat->Int}{k:Nat}(h:n<=k):gi ((List.range n).map f) k=0:=nF (by simpa using h)
section
variable {g:zf}{v t:Int}{l:List Int}
theorem yH{k:Nat}(h:k<g.lives.length):gi (wZ g v t) k=if zn g v t=true/\(k:Int)=v then t else zq:=by unfold wZ;rw[vh h]
theorem wT{k:Nat}(h:g.lives.length<=k):gi (wZ g v t) k=0:=by unfold wZ;rw[vD h]
theorem nZ(A:t<=100)(k:Nat):gi (wZ g v t) k<=zq:=by
 by_cases h:k<g.lives.length
 ·rw[yH h];split <;> simp only[zq] <;> omega
 rw[wT (by omega)];simp[zq]
theorem sI(A:zx g):∀y,y∈pC g->y.a<g.lives.length/\y.b<g.lives.length/\kj y.f/\zq<=y.f zq:=by
 intro y C;obtain⟨x,B,rfl⟩:=tg.1 C;have h:=A.edges x B;have D:=h.a0;have E:=h.a1;have F:=h.b0;have G:=h.b1;exact⟨by simp only[pq];omega,by simp only[pq];omega,fj A h,jM A h⟩
theorem yv.big(h:yv g v t l)(ht:t<=100)(k:Nat):gi l k<=zq:=Int.le_trans (h.2.1.1 k) (nZ ht k)
theorem yv.low(A:zx g)(h:yv g v t l)(J:t<=100){k:Nat}(F:k<g.lives.length):t<=gi l k:=by
 have:∀i,(λi=>if i<g.lives.length then t else 0) i<=gi l i:=h.2.2 _ ⟨λi=>?_,λy C=>?_⟩
 ·have:=this k;simpa[F]using this
 ·by_cases B:i<g.lives.length
  ·simp only[if_pos B,yH B];split <;> (try simp only[zq]) <;> omega
  simp only[if_neg B,wT (show g.lives.length<=i by omega)];exact Int.le_refl _
 obtain⟨D,E,H,I⟩:=sI A y C;obtain⟨x,G,rfl⟩:=tg.1 C;simp only[if_pos D,if_pos E];exact oM A (A.edges x G) (by simp only[zq];omega)
theorem yv.arc(h:yv g v t l){x:zA}(hx:x∈g.edges):gi l x.b.toNat<=rZ g x (gi l x.a.toNat):=h.2.1.2 (pq g x) (tg.2 ⟨x,hx,rfl⟩)
theorem yv.by_hop(C:zx g)(h:yv g v t l){k:Nat}(K:k<g.lives.length)(B:gi l k<gi (wZ g v t) k) :
  ∃x d G,x∈g.edges/\x.b=(k:Int)/\gi l x.a.toNat<=d/\zF g x d=some (G,gi l k):=by
 obtain⟨y,F,J,D⟩:=h.2.tight (λy F=>(sI C y F).2.2.1) B;obtain⟨x,I,rfl⟩:=tg.1 F;have H:=C.edges x I;have h1:=H.b0;simp only[pq]at J D;have M:gi (wZ g v t) k<=zq∨100<t:=by
  by_cases L:t<=100
  ·exact .inl (nZ L k)
  exact .inr (by omega)
 rcases uZ C H (gi l x.a.toNat)with E|⟨d,G,to,E,h3,h4,_⟩
 ·rw[E]at D
  rw[yH K]at B
  split at B
  ·rename_i hp
   rw[<-D]at B;simp only[zq]at B;obtain⟨A,_⟩:=hp;unfold zn at A
   split at A
   ·rename_i lf hlf
    have:=C.lives lf (List.mem_of_getElem? hlf);have:=C.h1;simp at A;omega
   simp at A
  rw[<-D]at B;simp only[zq]at B;omega
 exact⟨x,d,G,I,by omega,E,by rw[<-D,h4];exact h3⟩
theorem yv.here(B:zx g)(h:yv g v t l)(A:0<=v/\v<g.lives.length/\0<=t/\t<g.h){k:Nat}(F:k<g.lives.length)(K:gi l k<zq):Yq g k (gi l k):=by
 have H:=h.2.1.1 k
 by_cases C:gi l k=gi (wZ g v t) k
 ·rw[yH F]at C
  split at C
  ·rename_i hp
   rw[C,hp.2];exact⟨A.1,A.2.1,A.2.2.1,A.2.2.2,hp.1⟩
  omega
 obtain⟨x,d,L,I,G,_,E⟩:=h.by_hop B F (by omega);have D:=yh E;have J:=zT B (B.edges x I) E;rw[G]at D;exact⟨by omega,by omega,by omega,by omega,D.2.2.2.2.2.2⟩
end
def vF(g:zf)(x:zA)(by':Int):Nat->Int
 |0=>-1
 |n+1=>match zF g x n with
  |some p=>if p.2<=by' then (n:Int) else vF g x by' n
  |none=>vF g x by' n
theorem XA{g:zf}{x:zA}{s:Int}{n:Nat}(h:zF g x n=none):vF g x s (n+1)=vF g x s n:=by simp[vF,h]
theorem aA{g:zf}{x:zA}{s to:Int}{n:Nat}{l:zR}(h:zF g x n=some (l,to))(A:to<=s):vF g x s (n+1)=n:=by simp[vF,h,A]
theorem dv{g:zf}{x:zA}{s to:Int}{n:Nat}{l:zR}(h:zF g x n=some (l,to))(A:¬to<=s):vF g x s (n+1)=vF g x s n:=by simp[vF,h,A]
def uB(g:zf)(x:zA)(s:Int):Int:=vF g x s g.h.toNat
theorem qR{g:zf}{x:zA}{s:Int}:∀n:Nat,-1<=vF g x s n/\vF g x s n<n/\(0<=vF g x s n->∃l A,zF g x (vF g x s n)=some (l,A)/\A<=s) /\
  ∀(d:Int) l A,0<=d->d<n->zF g x d=some (l,A)->A<=s->d<=vF g x s n
 |0=>⟨by simp[vF],by simp[vF],λh=>by simp[vF]at h,λd l A H J=>by omega⟩
 |n+1=>by
  obtain⟨H,J,h3,h4⟩:=qR (g:=g) (x:=x) (s:=s) n;have hlow:vF g x s (n+1)=vF g x s n->(∀l A,zF g x n=some (l,A)->¬A<=s)->-1<=vF g x s (n+1)/\vF g x s (n+1)<((n+1:Nat):Int)/\(0<=vF g x s (n+1)->∃l A,zF g x (vF g x s (n+1))=some (l,A)/\A<=s) /\
    ∀(d:Int) l A,0<=d->d<((n+1:Nat):Int)->zF g x d=some (l,A)->A<=s->d<=vF g x s (n+1):=by
   intro e E;rw[e];refine⟨H,by omega,h3,λd l A I L D F=>?_⟩
   by_cases K:d=n
   ·rw[K]at D;exact absurd F (E l A D)
   exact h4 d l A I (by omega) D F
  cases C:zF g x n with
  |none=>exact hlow (XA C) λl A h=>by simp[C]at h
  |some p=>
   obtain⟨l,A⟩:=p
   by_cases B:A<=s
   ·rw[aA C B]
    exact⟨by omega,by omega,λ_=>⟨l,A,C,B⟩,λd M G I L D F=>by omega⟩
   refine hlow (dv C B) λM G h=>?_;rw[C]at h;simp only[Option.some.injEq,Prod.mk.injEq]at h;omega
section
variable {g:zf}{x:zA}{s:Int}
theorem lO:-1<=uB g x s:=(qR _).1
theorem jb(h:0<=uB g x s):∃l to,zF g x (uB g x s)=some (l,to)/\to<=s:=(qR _).2.2.1 h
theorem XB(B:zx g)(C:xW g x){d to:Int}{l:zR}(h:zF g x d=some (l,to))(A:to<=s):d<=uB g x s:=by
 have:=zT B C h;exact(qR _).2.2.2 d l to (by omega) (by omega) h A
theorem ij(B:zx g)(C:xW g x):uB g x s=-1∨uB g x s<s:=by
 by_cases h:0<=uB g x s
 ·obtain⟨l,E,A,D⟩:=jb h
  have:=zT B C A
  right;omega
 have:=lO (g:=g) (x:=x) (s:=s)
 left;omega
theorem VG(C:zx g)(D:xW g x){t:Int}(h:s<=t):uB g x s<=uB g x t:=by
 by_cases A:0<=uB g x s
 ·obtain⟨l,F,B,E⟩:=jb A
  exact XB C D B (by omega)
 have:=lO (g:=g) (x:=x) (s:=t);omega
end
def oJ(g:zf)(x:zA):pU Nat:=⟨x.b.toNat,x.a.toNat,λe=>- uB g x (- e)⟩
def YD(g:zf):List (pU Nat):=g.edges.map (oJ g)
def vH(g:zf)(v t:Int):List Int:=(List.range g.lives.length).map λ(k:Nat)=>if zn g v t=true/\(k:Int)=v then t else -1
def vO(g:zf)(v t:Int)(l:List Int):Prop:=l.length=g.lives.length/\qp (·∈YD g) (λi=>- gi (vH g v t) i) (λi=>- gi l i)
theorem vO.eq{g:zf}{v t:Int}{l r:List Int}(h:vO g v t l)(k:vO g v t r):l=r:=
 eU (h.1.trans k.1.symm) (funext λi=>by have e:- gi l i=- gi r i:=congrFun (h.2.eq k.2) i;omega)
theorem sn{g:zf}{y:pU Nat}:y∈YD g↔∃x,x∈g.edges/\y=oJ g x:=by
 simp only[YD,List.mem_map];exact⟨λ⟨x,h,e⟩=>⟨x,h,e.symm⟩,λ⟨x,h,e⟩=>⟨x,h,e.symm⟩⟩
theorem Zt{g:zf}(B:zx g){x:zA}(C:x∈g.edges):(oJ g x).a<g.lives.length/\(oJ g x).b<g.lives.length:=by
 have A:=B.edges x C;have D:=A.a0;have E:=A.a1;have F:=A.b0;have G:=A.b1;simp only[oJ];omega
theorem Pq{g:zf}(B:zx g){x:zA}(C:x∈g.edges):(pq g x).a<g.lives.length/\(pq g x).b<g.lives.length:=by
 have A:=B.edges x C;have D:=A.a0;have E:=A.a1;have F:=A.b0;have G:=A.b1;simp only[pq];omega
section
variable {g:zf}{v t:Int}{l a b:List Int}
theorem wB{k:Nat}(h:k<g.lives.length):gi (vH g v t) k=if zn g v t=true/\(k:Int)=v then t else -1:=by unfold vH;rw[vh h]
theorem pf{k:Nat}(h:g.lives.length<=k):gi (vH g v t) k=0:=by unfold vH;rw[vD h]
theorem yv.later(_hV:zx g){s:Int}(A:yv g v s a)(D:yv g v t b)(B:zn g v s=true)(F:s<=t)(E:s<=100)(i:Nat):gi a i<=gi b i:=by
 refine D.2.2 (gi a) ⟨λk=>?_,A.2.1.2⟩ i
 by_cases C:k<g.lives.length
 ·rw[yH C]
  split
  ·rename_i hp
   have:=A.2.1.1 k;rw[yH C,if_pos ⟨B,hp.2⟩]at this;omega
  exact A.big E k
 rw[wT (by omega),nF (by have:=A.1;omega)];exact Int.le_refl _
theorem yv.via(A:yv g v t a)(D:t<=100){m:Nat}(B:yv g m (gi a m) b)(i:Nat):gi a i<=gi b i:=by
 refine B.2.2 (gi a) ⟨λk=>?_,A.2.1.2⟩ i
 by_cases C:k<g.lives.length
 ·rw[yH C]
  split
  ·rename_i hp
   have:k=m:=by omega
   rw[this];exact Int.le_refl _
  exact A.big D k
 rw[wT (by omega),nF (by have:=A.1;omega)];exact Int.le_refl _
theorem yv.dead(B:zx g)(D:yv g v t a)(G:t<=100)(C:zn g v t=false){k:Nat}(F:k<g.lives.length):gi a k=zq:=by
 refine D.2.far (I:=zq) (λi=>D.big G i) (λy A=>(sI B y A).2.2.1) (λy A=>(sI B y A).2.2.2) (λi=>i<g.lives.length) (λy A _=>(sI B y A).1) (λi E=>?_) k F;rw[yH E,if_neg (by simp[C])];exact Int.le_refl _
theorem yv.self(D:zx g)(B:yv g v t a)(E:t<=100)(G:0<=v/\v<g.lives.length)(A:zn g v t=true):gi a v.toNat=t:=by
 have C:=B.2.1.1 v.toNat;rw[yH (by omega),if_pos ⟨A,by omega⟩]at C;have F:=B.low D E (k:=v.toNat) (by omega);omega
theorem vO.ge(h:vO g v t l)(A:zn g v t=true)(C:0<=v/\v<g.lives.length):t<=gi l v.toNat:=by
 have B:=h.2.1.1 v.toNat;simp only at B;rw[wB (by omega),if_pos ⟨A,by omega⟩]at B;omega
theorem vO.arc(h:vO g v t l){x:zA}(A:x∈g.edges):uB g x (gi l x.b.toNat)<=gi l x.a.toNat:=by
 have:=h.2.1.2 (oJ g x) (sn.2 ⟨x,A,rfl⟩);simp only[oJ,Int.neg_neg]at this;omega
theorem vO.dead(D:zx g)(h:vO g v t l)(A:zn g v t=false){k:Nat}(H:k<g.lives.length):gi l k=-1:=by
 have C:=h.2.1.1 k;simp only[wB H]at C;rw[if_neg (by simp[A])]at C;have F:=h.2.2 (λi=>if i<g.lives.length then 1 else 0) ⟨λi=>?_,λy L=>?_⟩ k
 ·simp only[if_pos H]at F;omega
 ·by_cases E:i<g.lives.length
  ·simp only[if_pos E];rw[wB E,if_neg (by simp[A])];omega
  simp only[if_neg E];rw[pf (by omega)];omega
 obtain⟨x,I,rfl⟩:=sn.1 L;have B:=D.edges x I;have M:=B.a0;have C:=B.a1;have F:=B.b0;have N:=B.b1;obtain⟨J,K⟩:=Zt D I;simp only[if_pos J,if_pos K];simp only[oJ];rcases ij (s:=-1) D B with G|G
 ·rw[G];decide
 have:=lO (g:=g) (x:=x) (s:=-1);omega
theorem vO.reach(C:zx g)(h:vO g v t l)(U:0<=v/\v<g.lives.length)(W:t<=100)(K:zn g v t=true){u:Nat}(_hu:u<g.lives.length){s:Int}(_:0<=s/\s<=100)(_:zn g u s=true)(R:yv g u s a) :
  gi a v.toNat<=t->s<=gi l u:=by
 intro T;refine Classical.byContradiction λV=>?_;have N:∀k,k<g.lives.length->-1<=gi l k:=λk L=>by
  have G:=h.2.1.1 k;simp only at G;rw[wB L]at G
  split at G
  ·rename_i hp
   obtain⟨B,_⟩:=hp;unfold zn at B
   split at B
   ·rename_i lf hlf
    have:=C.lives lf (List.mem_of_getElem? hlf);simp at B;omega
   simp at B
  omega
 have D:∀k,k<g.lives.length->gi l k<100+1:=by
  have:=h.2.2 (λi=>if i<g.lives.length then -100 else 0) ⟨λi=>?_,λy M=>?_⟩
  ·intro k L
   have:=this k;simp only[if_pos L]at this;omega
  ·by_cases E:i<g.lives.length
   ·simp only[if_pos E];rw[wB E];split <;> omega
   simp only[if_neg E];rw[pf (by omega)];omega
  obtain⟨x,F,rfl⟩:=sn.1 M;have A:=C.edges x F;have O:=A.a0;have G:=A.a1;have P:=A.b0;have Q:=A.b1;obtain⟨I,J⟩:=Zt C F;simp only[if_pos I,if_pos J];simp only[oJ];rcases ij (s:=100) C A with H|H
  ·rw[show -(-100:Int)=100 from by decide,H];decide
  rw[show -(-100:Int)=100 from by decide];omega
 have:=R.2.2 (λi=>if i<g.lives.length then gi l i+1 else 0) ⟨λi=>?_,λy M=>?_⟩ v.toNat
 ·rw[if_pos (show v.toNat<g.lives.length by omega)]at this
  have:=h.ge K U;omega
 ·by_cases E:i<g.lives.length
  ·simp only[if_pos E]
   rw[yH E]
   split
   ·rename_i hp
    have:i=u:=by omega
    rw[this];omega
   have:=D i E;simp only[zq];omega
  simp only[if_neg E];rw[wT (by omega)];exact Int.le_refl _
 obtain⟨x,F,rfl⟩:=tg.1 M;have A:=C.edges x F;have O:=A.a0;have G:=A.a1;have P:=A.b0;have Q:=A.b1;obtain⟨I,J⟩:=Pq C F;simp only[if_pos I,if_pos J];simp only[pq];rcases uZ C A (gi l x.a.toNat+1)with H|⟨d,lg,to,H,h5,h6,_⟩
 ·rw[H]
  have:=D x.b.toNat (by omega);simp only[zq];omega
 rw[h6];refine Classical.byContradiction λS=>?_;have X:=XB (s:=gi l x.b.toNat) C A h5 (by omega);have Y:=h.arc F;omega
theorem jN(D:zx g)(v t:Int)(h0:0<=t/\t<=100):∃a,yv g v t a:=by
 obtain⟨d,E⟩:=qp.ex (A:=(·∈pC g)) (init:=gi (wZ g v t)) (λy B=>(sI D y B).2.2.1) ⟨λ_=>0,λi=>by
  by_cases C:i<g.lives.length
  ·rw[yH C];split <;> simp only[zq] <;> omega
  ·rw[wT (by omega)];exact Int.le_refl _,λy B=>by
  obtain⟨x,I,rfl⟩:=tg.1 B;exact oM D (D.edges x I) (by simp[zq])⟩
 refine⟨(List.range g.lives.length).map d,by simp,⟨λi=>?_,λy B=>?_⟩,λe F i=>?_⟩
 ·by_cases C:i<g.lives.length
  ·rw[vh C];exact E.1.1 i
  rw[vD (by omega),wT (by omega)];exact Int.le_refl _
 ·obtain⟨G,H,_⟩:=sI D y B
  rw[vh G,vh H];exact E.1.2 y B
 by_cases C:i<g.lives.length
 ·rw[vh C];exact E.2 e F i
 have:=F.1 i;rw[wT (by omega)]at this;rw[vD (by omega)];exact this
def oE(g:zf)(v t:Int)(u:Nat)(s:Int):Prop:=0<=s/\s<=100/\zn g u s=true/\∃a,yv g u s a/\gi a v.toNat<=t
theorem kP(A:zx g){u s:Int}(h:zn g u s=true):0<=s/\s<g.h/\s<=99:=by
 unfold zn at h
 split at h
 ·rename_i lf hlf
  have:=A.lives lf (List.mem_of_getElem? hlf);have:=A.h1;simp at h;omega
 simp at h
theorem oE.earlier(A:zx g){u:Nat}{s r:Int}(h:oE g v t u s)(B:zn g u r=true)(C:r<=s):oE g v t u r:=by
 obtain⟨G,H,I,a,E,F⟩:=h;have J:=kP A B;obtain⟨b,D⟩:=jN A u r (by omega);exact⟨by omega,by omega,B,b,D,Int.le_trans (D.later A E B C (by omega) _) F⟩
theorem vO.is(A:zx g)(h:vO g v t l)(e:0<=v/\v<g.lives.length)(d:t<=100)(E:zn g v t=true){u:Nat}(O:u<g.lives.length) :
  (gi l u=-1∨oE g v t u (gi l u))/\∀s,oE g v t u s->s<=gi l u:=by
 have J:∀k,k<g.lives.length->∀s,oE g v t k s->s<=gi l k:=λk hk s ⟨h1,U,V,a,I,W⟩=>h.reach A e d E hk ⟨h1,U⟩ V I W;have n:∀k:Nat,∃m,(m=-1∨oE g v t k m)/\∀x,(x=-1∨oE g v t k x)->x<=m:=λk=>
  Xh (P:=λm=>m=-1∨oE g v t k m) (B:=100) (λx L=>L.elim (λh=>by omega) (λh=>h.2.1)) ⟨-1,.inl rfl⟩
 obtain⟨D,G⟩:=Classical.axiomOfChoice n;refine⟨?_,λs o=>J u O s o⟩;have c:-1<=gi l u:=by
  have h1:=h.2.1.1 u;simp only[wB O]at h1
  split at h1
  ·have:=kP A E;omega
  omega
 have f:gi l u<=D u:=by
  have:=h.2.2 (λi=>if i<g.lives.length then-D i else 0) ⟨λi=>?_,λy q=>?_⟩ u
  ·simp only[if_pos O]at this;omega
  ·by_cases S:i<g.lives.length
   ·simp only[if_pos S]
    rw[wB S]
    split
    ·rename_i hp
     have K:v=(i:Int):=hp.2.symm;have p:=kP A E;obtain⟨a,Y⟩:=jN A v t (by omega);have:=(G i).2 t (.inr ⟨by omega,by omega,by rw[<-K];exact E,a,by rw[<-K];exact Y,by rw[Y.self A d e E];exact Int.le_refl _⟩);omega
    have:=(G i).2 (-1) (.inl rfl);omega
   simp only[if_neg S];rw[pf (by omega)];exact Int.le_refl _
  obtain⟨x,L,rfl⟩:=sn.1 q;have H:=A.edges x L;have h0:=H.a0;have h1:=H.a1;have U:=H.b0;have V:=H.b1;obtain⟨M,R⟩:=Zt A L;simp only[if_pos M,if_pos R];simp only[oJ,Int.neg_neg];refine Int.neg_le_neg ?_
  by_cases F:0<=uB g x (D x.b.toNat)
  ·obtain⟨lg,to,I,W⟩:=jb F
   have h6:=zT A H I;have X:=yh I;rcases(G x.b.toNat).1 with j|⟨k1,k2,k3,a,k4,k5⟩
   ·omega
   refine(G x.a.toNat).2 _ (.inr ⟨F,by omega,by rw[show((x.a.toNat:Nat):Int)=x.a by omega];exact X.2.2.2.2.2.1,?_⟩);obtain⟨Q,C⟩:=jN A x.a.toNat (uB g x (D x.b.toNat)) (by omega);refine⟨Q,C,?_⟩;have T:zn g x.a.toNat (uB g x (D x.b.toNat))=true:=by rw[show((x.a.toNat:Nat):Int)=x.a by omega];exact X.2.2.2.2.2.1
   have M:=C.self A (by omega) ⟨by omega,by omega⟩ T;have R:=C.arc L;simp only[Int.toNat_natCast]at M;rw[M]at R;have r:=hJ A H (Int.le_refl _) I;have N:Yq g x.b.toNat (gi Q x.b.toNat):=C.here A ⟨by omega,by omega,by omega,by omega⟩ (by omega) (by simp only[zq];omega);obtain⟨b,Z⟩:=jN A x.b.toNat (gi Q x.b.toNat) ⟨N.2.2.1,by have:=N.2.2.2.1;have:=A.h1;omega⟩
   have w:=C.via (by omega) Z v.toNat;have z:=Z.later A k4 N.2.2.2.2 (by omega) (by have:=N.2.2.2.1;have:=A.h1;omega) v.toNat;omega
  have:=(G x.a.toNat).2 (-1) (.inl rfl);omega
 rcases(G u).1 with j|hc
 ·left;omega
 have:=J u O _ hc
 right
 rw[show gi l u=D u by omega];exact hc
end
def left(l:List Int):Nat:=uW (l.map λx=>100-x)
theorem QA{l:List Int}{i:Nat}(h:i<l.length){x:Int}(h1:gi l i<x)(A:x<=100):left (l.set i x)<left l:=by
 have e:gi (l.map λx=>100-x) i=100-gi l i:=vE (by rw[List.getElem?_map,ou h];rfl);have:=gP (l:=l.map λx=>100-x) (i:=i) (by simpa using h) (100-x);rw[e]at this;unfold left;rw[List.map_set];omega
structure mu(g:zf)(v t:Int)(l0 l:List Int)(more:Bool)(j:Nat):Prop where
 len:l.length=g.lives.length
 le:∀i,gi (vH g v t) i<=gi l i
 above:wV (·∈YD g) (λi=>- gi (vH g v t) i) (λi=>- gi l i)
 tot:left l<=left l0
 less:more=true->left l<left l0
 told:more=false->∀x,x∈g.edges.take j->uB g x (gi l x.b.toNat)<=gi l x.a.toNat
section
variable {g:zf}{v t:Int}{l0 l:List Int}{more:Bool}{j:Nat}
theorem cJ(B:0<=t)(i:Nat):-1<=gi (vH g v t) i:=by
 by_cases A:i<g.lives.length
 ·rw[wB A];split <;> omega
 rw[pf (by omega)];decide
theorem mu.low(h:mu g v t l0 l more j)(ht:0<=t)(i:Nat):-1<=gi l i:=Int.le_trans (cJ ht i) (h.le i)
theorem Sl(B:zx g)(F:t<=100)(h:wV (·∈YD g) (λi=>- gi (vH g v t) i) (λi=>- gi l i))(i:Nat):gi l i<=100:=by
 have:=h (λ_=>-100) ⟨λi=>?_,λy E=>?_⟩ i
 ·simp only at this;omega
 ·by_cases C:i<g.lives.length
  ·simp only[wB C];split <;> omega
  simp only[pf (show g.lives.length<=i by omega)];decide
 obtain⟨x,D,rfl⟩:=sn.1 E;simp only[oJ];rcases ij (s:=100) B (B.edges x D)with A|A
 ·rw[show -(-100:Int)=100 from by decide,A];decide
 rw[show -(-100:Int)=100 from by decide];omega
theorem mu.start(_:0<=t):mu g v t (vH g v t) (vH g v t) false 0:=⟨by simp[vH],λ_=>Int.le_refl _,wM,Nat.le_refl _,λh=>by simp at h,λ_ a ha=>by simp at ha⟩
theorem mu.again(h:mu g v t l0 l more j):mu g v t l l false 0:=⟨h.len,h.le,h.above,Nat.le_refl _,λh=>by simp at h,λ_ a ha=>by simp at ha⟩
theorem mu.same(h:mu g v t l0 l more j){y:zA}(D:g.edges[j]?=some y)(B:uB g y (gi l y.b.toNat)<=gi l y.a.toNat):mu g v t l0 l more (j+1):=
 ⟨h.len,h.le,h.above,h.tot,h.less,λC a A=>by
  rw[List.take_add_one,D]at A;rcases List.mem_append.1 A with A|A
  ·exact h.told C a A
  obtain rfl:a=y:=by simpa using A
  exact B⟩
theorem mu.change(h:mu g v t l0 l more j)(G:zx g){y:zA}(N:g.edges[j]?=some y){d:Int}(J:uB g y (gi l y.b.toNat)=d)(D:gi l y.a.toNat<d)(C:d<=100) :
  mu g v t l0 (l.set y.a.toNat d) true (j+1):=by
 have H:=List.mem_of_getElem? N;have E:=G.edges y H;have O:=E.a0;have P:=E.a1;have K:=h.len;have F:gi (l.set y.a.toNat d)=upd (gi l) y.a.toNat d:=vX (by omega) d;have L:=QA (l:=l) (i:=y.a.toNat) (by omega) D C;have B:left (l.set y.a.toNat d)<left l0:=by have:=h.tot;omega
 refine⟨by simp[K],λi=>?_,?_,by omega,λ_=>B,λe=>by simp at e⟩
 ·rw[F]
  by_cases A:i=y.a.toNat
  ·rw[A,yD];have:=h.le y.a.toNat;omega
  rw[yx _ _ A];exact h.le i
 have k:=h.above.upd h.above (x:=oJ g y) (sn.2 ⟨y,H,rfl⟩) (λs r M=>by
  simp only[oJ];have:=VG (s:=-r) (t:=-s) G E (by omega);omega) (Int.le_refl _)
 have I:(λi=>- gi (l.set y.a.toNat d) i)=upd (λi=>- gi l i) (oJ g y).b (min (- gi l (oJ g y).b) ((oJ g y).f (- gi l (oJ g y).a))):=by
  funext i
  simp only[oJ,Int.neg_neg,F,J]
  by_cases A:i=y.a.toNat
  ·rw[A,yD,yD];omega
  rw[yx _ _ A,yx _ _ A]
 rw[I];exact k
theorem mu.fin(h:mu g v t l0 l false j)(B:g.edges.length<=j):vO g v t l:=by
 refine⟨h.len,⟨λi=>Int.neg_le_neg (h.le i),λx C=>?_⟩,h.above⟩;obtain⟨a,A,rfl⟩:=sn.1 C;have:=h.told rfl a (by rw[List.take_of_length_le B];exact A);simp only[oJ,Int.neg_neg];omega
theorem VF{x:zA}{s:Int}(A:zx g):uB g x s<=100:=by
 have:=(qR (g:=g) (x:=x) (s:=s) g.h.toNat).2.1;have:=A.h1;have:=A.h0;unfold uB;omega
theorem Sm(C:zn g v t=false)(_:0<=t)(E:zx g):vO g v t (List.replicate g.lives.length (-1)):=by
 have e:vH g v t=List.replicate g.lives.length (-1):=wN (by simp[vH]) λi F=>by
  have A:i<g.lives.length:=by simpa[vH]using F
  rw[wB A,if_neg (by simp[C])];exact(vE (by simp[A])).symm
 refine⟨by simp,⟨λi=>by rw[e];exact Int.le_refl _,λy H=>?_⟩,by rw[e];exact wM⟩;obtain⟨x,G,rfl⟩:=sn.1 H;have B:=E.edges x G;have I:=B.a0;have J:=B.a1;have K:=B.b0;have L:=B.b1;simp only[oJ];rw[vE (l:=List.replicate g.lives.length (-1)) (v:=x.a.toNat) (x:=-1) (by rw[List.getElem?_replicate,if_pos (by omega)]),vE (l:=List.replicate g.lives.length (-1)) (v:=x.b.toNat) (x:=-1) (by rw[List.getElem?_replicate,if_pos (by omega)])]
 have M:=lO (g:=g) (x:=x) (s:=-1);rcases ij (s:=-1) E B with D|D
 ·rw[show -(-(-1:Int))=-1 from by decide,D];decide
 omega
theorem Rb(A:zn g v t=true)(h0:0<=v)(h1:v<g.lives.length):(List.replicate g.lives.length (-1)).set v.toNat t=vH g v t:=
 wN (by simp[vH]) λi B=>by
  have hi':i<g.lives.length:=by simpa using B
  rw[vX (by simp;omega)]
  by_cases e:i=v.toNat
  ·rw[e,yD,wB (by omega),if_pos ⟨A,by omega⟩]
  rw[yx _ _ e,wB hi',if_neg (λh=>e (by omega))];exact vE (by simp[hi'])
theorem SZ(A:zn g v t=true)(h0:0<=v)(h1:v<g.lives.length):(List.replicate g.lives.length zq).set v.toNat t=wZ g v t:=
 wN (by simp[wZ]) λi B=>by
  have hi':i<g.lives.length:=by simpa using B
  rw[vX (by simp;omega)]
  by_cases e:i=v.toNat
  ·rw[e,yD,yH (by omega),if_pos ⟨A,by omega⟩]
  rw[yx _ _ e,yH hi',if_neg (λh=>e (by omega))];exact vE (by simp[hi'])
theorem Ra(A:zn g v t=false):List.replicate g.lives.length zq=wZ g v t:=
 wN (by simp[wZ]) λi B=>by
  have hi':i<g.lives.length:=by simpa using B
  rw[yH hi',if_neg (by simp[A])];exact vE (by simp[hi'])
end
theorem dz{h:Int}:∀(r:List zR) (q:Int),yB h (some q) r=0->∀l,l∈r->q<=l.f
 |[],_,_,l,hl=>by simp at hl
 |y::r,q,he,l,hl=>by
  have h1:uN y h=true:=by
   cases B:uN y h
   ·rw[uO B]at he;simp at he
   rfl
  by_cases A:y.f<q
  ·rw[sQ h1 A]at he;simp at he
  rw[sR h1 A]at he;rcases List.mem_cons.1 hl with rfl|hl
  ·omega
  have:=dz r y.t he l hl;simp[uN]at h1;omega
theorem aB{h t:Int}:∀(r:List zR) (p:Option Int),yB h p r=0->∀l,l∈r->l.f<=t->t<l.t->yC t r=some l
 |[],_,_,l,hl,_,_=>by simp at hl
 |y::r,p,he,l,hl,h2,h3=>by
  have h1:uN y h=true:=by
   cases C:uN y h
   ·rw[uO C]at he;simp at he
   rfl
  have A:yB h (some y.t) r=0:=by
   cases p with
   |none=>rwa[rB h1]at he
   |some q=>
    by_cases B:y.f<q
    ·rw[sQ h1 B]at he;simp at he
    rwa[sR h1 B]at he
  rcases List.mem_cons.1 hl with rfl|hl
  ·exact jc ⟨h2,h3⟩
  have:=dz r y.t A l hl;rw[mZ (by omega)];exact aB r _ A l hl h2 h3
end Go.Proofs.YtjcimdpldlamfaaGreatDoor
