import Derived.Maps.OwnSet
import Derived.DeepKeys4
import Derived.Test.YtjcimdpldlamfaaGreatDoorBdc6e1fc44e5
namespace Go.Proofs.YtjcimdpldlamfaaGreatDoor
def mD(g:zf)(wt:zR->Int)(y:pU (Nat×Nat)):Prop:=
 (∃v t:Nat,y=⟨(v,t),(v,t+1),λn=>n⟩/\v<g.lives.length/\(t:Int)+1<g.h/\zn g v ((t:Int)+1)=true) ∨
 ∃x l to,∃t:Nat,x∈g.edges/\zF g x t=some (l,to)/\y=⟨(x.a.toNat,t),(x.b.toNat,to.toNat),λn=>n+wt l⟩
def wH(g:zf)(v t:Int)(p:Nat×Nat):Int:=if zn g v t=true/\(p.1:Int)=v/\(p.2:Int)=t then 0 else zq
def uH(g:zf)(wt:zR->Int)(v t:Int)(d:Nat×Nat->Int):Prop:=qp (mD g wt) (wH g v t) d
def ul(l:zR):Int:=l.cost
def qu(_:zR):Int:=1
def py(g:zf)(wt:zR->Int):Prop:=∀x,x∈g.edges->∀l,l∈x.legs->0<=wt l/\wt l<=1000
theorem ro{g:zf}(hV:zx g):py g ul:=λx hx l hl=>by have:=(hV.edges x hx).legs l hl;simp only[ul];omega
theorem aD{g:zf}:py g qu:=λx _ l _=>by simp only[qu];omega
def mz(f:Nat->Int):Nat->Nat->Int
 |_,0=>zq
 |k,m+1=>if f k<zq then (k:Int) else mz f (k+1) m
theorem Wt{f:Nat->Int}{k m:Nat}(h:f k<zq):mz f k (m+1)=k:=by rw[mz,if_pos h]
theorem UZ{f:Nat->Int}{k m:Nat}(h:¬f k<zq):mz f k (m+1)=mz f (k+1) m:=by rw[mz,if_neg h]
theorem rs{f:Nat->Int}:∀(m k:Nat),(mz f k m=zq∨∃s:Nat,mz f k m=s/\k<=s/\s<k+m/\f s<zq)/\∀s:Nat,k<=s->s<k+m->f s<zq->mz f k m<=s
 |0,k=>⟨.inl rfl,λs h1 h2=>by omega⟩
 |m+1,k=>by
  by_cases h:f k<zq
  ·rw[Wt h]
   exact⟨.inr ⟨k,rfl,by omega,by omega,h⟩,λs h1 h2 h3=>by omega⟩
  rw[UZ h];obtain⟨h1,h2⟩:=rs (f:=f) m (k+1);refine⟨h1.imp id λ⟨s,k1,k2,k3,k4⟩=>⟨s,k1,by omega,by omega,k4⟩,λs k1 k2 k3=>?_⟩
  by_cases e:s=k
  ·rw[e]at k3;exact absurd k3 h
  exact h2 s (by omega) (by omega) k3
section
variable {g:zf}{wt:zR->Int}{v t:Int}{d:Nat×Nat->Int}
theorem oL:∀y,mD g wt y->kj y.f:=by
 rintro y (⟨_,_,rfl,_⟩|⟨_,l,_,_,_,_,rfl⟩)
 ·exact λs t h=>h
 exact λs t h=>by simp only;omega
theorem Zy(A:py g wt)(N:Int):∀y,mD g wt y->N<=y.f N:=by
 rintro y (⟨_,_,rfl,_⟩|⟨x,l,_,_,hx,ha,rfl⟩)
 ·exact Int.le_refl _
 have:=A x hx l (yh ha).1;simp only;omega
theorem oS(p:Nat×Nat):wH g v t p<=zq:=by unfold wH;split <;> simp[zq]
theorem uH.big(h:uH g wt v t d)(p:Nat×Nat):d p<=zq:=Int.le_trans (h.1.1 p) (oS p)
theorem uH.pos(hw:py g wt)(h:uH g wt v t d)(p:Nat×Nat):0<=d p:=
 h.2 (λ_=>0) ⟨λp=>by unfold wH;split <;> simp[zq],λy hy=>Zy hw 0 y hy⟩ p
theorem uH.told(D:zx g)(J:py g wt)(h:uH g wt v t d)(O:0<=v/\v<g.lives.length)(_:0<=t){p:Nat×Nat}(N:d p<zq):d p<=1000*p.2/\p.1<g.lives.length/\zn g p.1 p.2=true:=by
 constructor
 ·refine Classical.byContradiction λE=>?_
  have G:∀q,(open Classical in if d q<=1000*q.2 then d q else zq)<=zq:=λq=>by
   split
   ·exact h.big q
   exact Int.le_refl _
  have:=h.2 (λq=>open Classical in if d q<=1000*q.2 then d q else zq) ⟨λq=>?_,?_⟩ p
  ·simp only[if_neg E]at this;omega
  ·have A:=h.1.1 q
   show(if d q<=1000*q.2 then d q else zq)<=wH g v t q
   by_cases B:d q<=1000*q.2
   ·rw[if_pos B];exact A
   rw[if_neg B];unfold wH at A⊢
   split
   ·rename_i h2;rw[if_pos h2]at A;omega
   exact Int.le_refl _
  rintro y (⟨u,s,rfl,A,h2,h3⟩|⟨x,l,to,s,hx,ha,rfl⟩)
  ·have C:=h.1.2 _ (.inl ⟨u,s,rfl,A,h2,h3⟩)
   simp only at C⊢
   by_cases B:d (u,s)<=1000*(s:Int)
   ·rw[if_pos B,if_pos (by omega)];exact C
   rw[if_neg B];exact G _
  have C:=h.1.2 _ (.inr ⟨x,l,to,s,hx,ha,rfl⟩);have K:=zT D (D.edges x hx) ha;have F:=J x hx l (yh ha).1;simp only at C⊢
  by_cases B:d (x.a.toNat,s)<=1000*(s:Int)
  ·rw[if_pos B,if_pos (by omega)];exact C
  rw[if_neg B];have:=G (x.b.toNat,to.toNat);simp only at this;omega
 refine Classical.byContradiction λE=>?_;have:=h.far (I:=zq) h.big oL (Zy J zq) (λq=>¬(q.1<g.lives.length/\zn g q.1 q.2=true)) ?_ (λq B=>?_) p E
 ·omega
 ·rintro y (⟨u,s,rfl,A,h2,h3⟩|⟨x,l,to,s,hx,ha,rfl⟩) hS
  ·exact absurd ⟨A,by simpa using h3⟩ hS
  have K:=zT D (D.edges x hx) ha;have F:=(yh ha).2.2.2.2.2.2;have H:=D.edges x hx;have L:=H.b0;have M:=H.b1;refine absurd ⟨?_,?_⟩ hS
  ·simp only;omega
  simp only;rw[show((x.b.toNat:Nat):Int)=x.b by omega,show((to.toNat:Nat):Int)=to by omega];exact F
 unfold wH
 split
 ·rename_i A
  refine absurd ⟨by omega,?_⟩ B;rw[A.2.1,A.2.2];exact A.1
 exact Int.le_refl _
theorem cZ{u s r q:Int}(h1:zn g u s=true)(A:zn g u r=true)(B:s<=q)(C:q<=r):zn g u q=true:=by
 unfold zn at h1 A⊢
 split at h1
 ·rename_i lf hlf
  rw[hlf]at A;simp at h1 A⊢;omega
 simp at h1
theorem uH.wait(h:uH g wt v t d){u s:Nat}(hu:u<g.lives.length):∀(k:Nat),zn g u s=true->zn g u ((s+k:Nat):Int)=true->((s+k:Nat):Int)<g.h->d (u,s+k)<=d (u,s)
 |0,_,_,_=>Int.le_refl _
 |k+1,h1,h2,h3=>by
  have h4:=cZ (q:=((s+k:Nat):Int)) h1 h2 (by omega) (by omega);have ih:=uH.wait h hu k h1 h4 (by omega);have h5:=h.1.2 _ (.inl ⟨u,s+k,rfl,hu,by omega,by rw[<-h2];congr 1⟩);simp only at h5;exact Int.le_trans h5 ih
def qo(g:zf)(d:Nat×Nat->Int):List Int:=(List.range g.lives.length).map λu=>mz (λs=>d (u,s)) 0 g.h.toNat
theorem oW{u:Nat}(h:u<g.lives.length):gi (qo g d) u=mz (λs=>d (u,s)) 0 g.h.toNat:=by unfold qo;rw[vh h]
theorem aV{u:Nat}(h:g.lives.length<=u):gi (qo g d) u=0:=by unfold qo;rw[vD h]
theorem fN(B:zx g)(O:py g wt)(h:uH g wt v t d)(W:0<=v/\v<g.lives.length)(V:0<=t/\t<g.h):yv g v t (qo g d):=by
 refine⟨by simp[qo],⟨λu=>?_,λy X=>?_⟩,λe M u=>?_⟩
 ·by_cases G:u<g.lives.length
  ·rw[oW G,yH G]
   obtain⟨h1,K⟩:=rs (f:=λs=>d (u,s)) g.h.toNat 0
   split
   ·rename_i hp
    have D:=h.1.1 (u,t.toNat);unfold wH at D;rw[if_pos ⟨hp.1,hp.2,by simp only;omega⟩]at D;have:=K t.toNat (by omega) (by omega) (by simp only[zq];omega);omega
   rcases h1 with h1|⟨s,h1,_,D,_⟩
   ·rw[h1];exact Int.le_refl _
   rw[h1];have:=B.h1;simp only[zq];omega
  rw[aV (by omega),wT (by omega)];exact Int.le_refl _
 ·obtain⟨x,E,rfl⟩:=tg.1 X
  have A:=B.edges x E;have S:=A.a0;have h1:=A.a1;have K:=A.b0;have D:=A.b1;simp only[pq];rw[oW (show x.a.toNat<g.lives.length by omega),oW (show x.b.toNat<g.lives.length by omega)];obtain⟨H,m⟩:=rs (f:=λs=>d (x.a.toNat,s)) g.h.toNat 0;obtain⟨J,Y⟩:=rs (f:=λs=>d (x.b.toNat,s)) g.h.toNat 0;have C:mz (λs=>d (x.b.toNat,s)) 0 g.h.toNat<=zq:=by
   rcases J with J|⟨s,J,_,m3,_⟩
   ·rw[J];exact Int.le_refl _
   rw[J];have:=B.h1;simp only[zq];omega
  rcases H with H|⟨s,H,_,k3,k4⟩
  ·rw[H];exact Int.le_trans C (jM B A)
  rw[H];rcases uZ B A (s:Int)with N|⟨q,lg,to,N,L,F,_⟩
  ·rw[N];exact C
  rw[F];have T:=zT B A L;have P:=yh L;obtain⟨Z,c,R⟩:=h.told B O W V.1 k4;simp only at Z R;obtain⟨k,rfl⟩:∃k:Nat,q=((s+k:Nat):Int):=⟨(q-s).toNat,by omega⟩;have i:=h.wait c k R (by rw[show((x.a.toNat:Nat):Int)=x.a by omega];exact P.2.2.2.2.2.1) (by omega);have j:=h.1.2 _ (.inr ⟨x,lg,to,s+k,E,L,rfl⟩);have n:=O x E lg P.1;simp only at i j;have o:=B.h1
  have:=Y to.toNat (by omega) (by omega) (by simp only[zq];omega);omega
 by_cases G:u<g.lives.length
 ·rw[oW G]
  obtain⟨h1,_⟩:=rs (f:=λs=>d (u,s)) g.h.toNat 0;rcases h1 with h1|⟨s,h1,_,D,N⟩
  ·rw[h1]
   have:=M.1 u;exact Int.le_trans this (nZ (by have:=B.h1;omega) u)
  rw[h1];refine Classical.byContradiction λU=>?_;have:=h.far (I:=zq) h.big oL (Zy O zq) (λq=>q.1<g.lives.length/\(q.2:Int)<e q.1) ?_ (λq Q=>?_) (u,s) ⟨G,by simp only;omega⟩
  ·omega
  ·rintro y (⟨u',s',rfl,h1,K,D⟩|⟨x,l,to,s',E,ha,rfl⟩) hS
   ·simp only at hS⊢;exact⟨h1,by omega⟩
   have A:=B.edges x E;have S:=A.a0;have h1:=A.a1;have K:=A.b0;have D:=A.b1;have L:=zT B A ha;simp only at hS⊢;refine⟨by omega,?_⟩;refine Classical.byContradiction λU=>?_;have F:=M.2 _ (tg.2 ⟨x,E,rfl⟩);have T:=hJ B A (t:=e x.a.toNat) (d:=s') (by omega) ha;simp only[pq]at F;omega
  unfold wH
  split
  ·rename_i hp
   have F:=M.1 q.1;rw[yH Q.1,if_pos ⟨hp.1,hp.2.1⟩]at F;have:=Q.2;omega
  exact Int.le_refl _
 have:=M.1 u;rw[wT (by omega)]at this;rw[aV (by omega)];exact this
theorem uH.reach(B:zx g)(E:py g wt)(h:uH g wt v t d)(D:0<=v/\v<g.lives.length)(C:0<=t/\t<g.h){a:List Int}(K:yv g v t a){u s:Nat}(G:u<g.lives.length)(M:(s:Int)<g.h) :
  d (u,s)<zq↔gi a u<=s/\zn g u s=true:=by
 have L:a=qo g d:=K.eq (fN B E h D C);rw[L,oW G];obtain⟨h1,H⟩:=rs (f:=λs=>d (u,s)) g.h.toNat 0
 constructor
 ·intro F
  obtain⟨_,_,A⟩:=h.told B E D C.1 F;exact⟨H s (by omega) (by omega) F,A⟩
 rintro⟨A,I⟩;rcases h1 with h1|⟨r,h1,_,h5,h6⟩
 ·rw[h1]at A;have:=B.h1;simp only[zq]at A;omega
 obtain⟨_,_,J⟩:=h.told B E D C.1 h6;rw[h1]at A;obtain⟨k,rfl⟩:∃k:Nat,s=r+k:=⟨s-r,by omega⟩;have:d (u,r+k)<=d (u,r):=h.wait G k J I M;omega
end
structure tB where
 v:Int
 t:Int
 edge:Int
 depart:Int
 hops:Bool
abbrev qI(α:Type):=Nat×Nat->Option α
def vT(B:qI Int)(p:Nat×Nat):Int:=(B p).getD zq
def jo{α:Type}(F:qI α)(p:Nat×Nat)(a:α):qI α:=λq=>if q=p then some a else F q
def yS{α:Type}(B:qI Int)(F:qI α)(p:Nat×Nat)(n:Int)(a:α):qI α:=if n<vT B p then jo F p a else F
theorem pK{α:Type}(F:qI α)(p:Nat×Nat)(a:α):jo F p a p=some a:=by simp[jo]
theorem iF{α:Type}(F:qI α){p q:Nat×Nat}(a:α)(h:q≠p):jo F p a q=F q:=by simp[jo,h]
theorem ld{α:Type}(B:qI Int)(F:qI α){p q:Nat×Nat}(n:Int)(a:α)(h:q≠p):yS B F p n a q=F q:=by
 unfold yS
 split
 ·exact iF _ _ h
 rfl
theorem Yk(B:qI Int)(p:Nat×Nat)(n:Int):vT (yS B B p n n)=upd (vT B) p (min (vT B p) n):=by
 funext q
 by_cases h:q=p
 ·subst h
  rw[yD];unfold yS
  split
  ·rw[vT,pK,Option.getD_some];omega
  omega
 rw[yx _ _ h,vT,ld _ _ _ _ h,vT]
theorem qx{B:qI Int}{p:Nat×Nat}{n:Int}(h:B p=some n):vT B p=n:=by rw[vT,h];rfl
theorem kh{B:qI Int}{p:Nat×Nat}(h:B p=none):vT B p=zq:=by rw[vT,h];rfl
def Zq(g:zf)(wt:zR->Int)(B:qI Int)(p:Nat×Nat)(n:Int)(o:tB):Prop:=
 (o.hops=false/\o.v=p.1/\o.t+1=p.2/\0<=o.t/\o.edge=0/\o.depart=0/\B (p.1,o.t.toNat)=some n) ∨
 (o.hops=true/\∃(j:Nat) (x:zA) (l:zR) (m:Int),o.edge=j/\g.edges[j]?=some x/\o.v=x.a/\x.b=p.1/\o.depart=o.t/\0<=o.t/\zF g x o.t=some (l,(p.2:Int))/\B (x.a.toNat,o.t.toNat)=some m/\n=m+wt l)
structure zQ(g:zf)(wt:zR->Int)(v s:Int)(t u:Nat)(ww:Bool)(i:Nat)(B:qI Int)(O:qI tB):Prop where
 above:wV (mD g wt) (wH g v s) (vT B)
 start:zn g v s=true->B (v.toNat,s.toNat)=some 0
 told:∀p n,B p=some n->p.1<g.lives.length/\s<=p.2/\(p.2:Int)<g.h/\zn g p.1 p.2=true/\0<=n/\n<=1000*(p.2:Int)
 orig:∀p n,B p=some n->p≠(v.toNat,s.toNat)->s<p.2/\∃o,O p=some o/\Zq g wt B p n o/\o.t<=t
 waits:∀(w r:Nat),(r<t∨r=t/\(w<u∨w=u/\ww=true))->w<g.lives.length->(r:Int)+1<g.h->zn g w ((r:Int)+1)=true->vT B (w,r+1)<=vT B (w,r)
 legs:∀(j r:Nat) x l to,g.edges[j]?=some x->zF g x r=some (l,to)->(r<t∨r=t/\(x.a<u∨x.a=u/\j<i))->vT B (x.b.toNat,to.toNat)<=vT B (x.a.toNat,r)+wt l
section
variable {g:zf}{wt:zR->Int}{v s:Int}{t u i:Nat}{ww:Bool}{B:qI Int}{O:qI tB}
theorem zQ.big(C:zx g)(h:zQ g wt v s t u ww i B O)(p:Nat×Nat):vT B p<=zq:=by
 cases A:B p with
 |none=>rw[kh A];exact Int.le_refl _
 |some n=>
  have:=h.told p n A;have:=C.h1;rw[qx A];simp only[zq];omega
theorem Vj(L:zx g)(N:py g wt)(T:0<=v/\v<g.lives.length)(S:0<=s/\s<g.h)(H:zn g v s=true):zQ g wt v s s.toNat 0 false 0 (jo (λ_=>none) (v.toNat,s.toNat) 0) (λ_=>none):=by
 have D:vT (jo (λ_=>none) (v.toNat,s.toNat) 0)=wH g v s:=by
  funext q
  unfold wH
  by_cases h:q=(v.toNat,s.toNat)
  ·rw[vT,h,pK,if_pos ⟨H,by simp only;omega,by simp only;omega⟩];rfl
  rw[vT,iF _ _ h,if_neg]
  ·rfl
  rintro⟨_,J,K⟩
  apply h
  apply Prod.ext
  ·simp only;omega
  simp only;omega
 have B:∀p n,jo (λ_=>none) (v.toNat,s.toNat) (0:Int) p=some n->p=(v.toNat,s.toNat)/\n=0:=λp n C=>by
  by_cases h:p=(v.toNat,s.toNat)
  ·subst h
   rw[pK]at C;exact⟨rfl,by simpa using C.symm⟩
  rw[iF _ _ h]at C;simp at C
 have A:∀(r w:Nat),r<s.toNat->vT (jo (λ_=>none) (v.toNat,s.toNat) 0) (w,r)=zq:=λr w F=>by
  rw[vT,iF _ _ (λe=>by simp only[Prod.mk.injEq]at e;omega)];rfl
 have E:∀p,vT (jo (λ_=>none) (v.toNat,s.toNat) 0) p<=zq:=λp=>by rw[D];exact oS p
 refine⟨by rw[D];exact wM,λ_=>pK _ _ _,λp n C=>?_,λp n C G=>?_,λw r F J K Q=>?_,λj r x l O I F R=>?_⟩
 ·obtain⟨rfl,rfl⟩:=B p n C
  refine⟨by simp only;omega,by simp only;omega,by simp only;omega,?_,by omega,by simp only;omega⟩;simp only;rw[show((v.toNat:Nat):Int)=v by omega,show((s.toNat:Nat):Int)=s by omega];exact H
 ·exact absurd (B p n C).1 G
 ·rw[A r w (by rcases F with h|⟨h,h4|h4⟩ <;> simp at * <;> omega)]
  exact E _
 have M:=L.edges x (List.mem_of_getElem? I);have P:=M.a0;rw[A r x.a.toNat (by omega)];have:=N x (List.mem_of_getElem? I) l (yh F).1;have:=E (x.b.toNat,O.toNat);omega
theorem Xc(E:py g wt)(C:zn g v s=false):zQ g wt v s s.toNat 0 false 0 (λ_=>none) (λ_=>none):=by
 have A:vT (λ_=>none)=wH g v s:=by
  funext q
  unfold wH;rw[if_neg (by rw[C];simp)];rfl
 refine⟨by rw[A];exact wM,λh=>by rw[C]at h;simp at h,λp n B=>by simp at B,λp n B=>by simp at B,λw r D G H I=>Int.le_refl _,λj r x l K F D J=>?_⟩;have:=E x (List.mem_of_getElem? F) l (yh D).1;show zq<=zq+wt l;omega
theorem zQ.put(h:zQ g wt v s t u ww i B O){m:Int}(y:B (u,t)=some m){p:Nat×Nat}{n:Int}{f:Int->Int}(z:mD g wt ⟨(u,t),p,f⟩)(hn:f m=n)(b:p.1<g.lives.length)(G0:t<p.2)(c:(p.2:Int)<g.h)
  (d:zn g p.1 p.2=true) (h0:0<=n) (h1:n<=1000*(p.2:Int)) {o:tB} (ho:Zq g wt B p n o) (K:o.t<=t) :
  zQ g wt v s t u ww i (yS B B p n n) (yS B O p n o)/\vT (yS B B p n n) p<=n/\∀q:Nat×Nat,q.2<=t->yS B B p n n q=B q:=by
 have G:∀q:Nat×Nat,q.2<=t->yS B B p n n q=B q:=λq A=>ld _ _ _ _ (λe=>by rw[e]at A;omega);have H:∀q:Nat×Nat,q.2<=t->vT (yS B B p n n) q=vT B q:=λq A=>by rw[vT,vT,G q A]
 have I:∀q,vT (yS B B p n n) q<=vT B q:=λq=>by
  rw[Yk]
  by_cases e:q=p
  ·rw[e,yD];omega
  rw[yx _ _ e];exact Int.le_refl _
 have H0:s<=t:=(h.told _ _ y).2.1;have E:∀q F D,Zq g wt B q F D->D.t<=t->Zq g wt (yS B B p n n) q F D:=λq F D A ht=>by
  rcases A with⟨Q,S,T,U,V,W,X⟩|⟨Q,j,x,l,m',S,T,U,V,W,X,a8,a9,R⟩
  ·exact .inl ⟨Q,S,T,U,V,W,by rw[G _ (by simp only;omega)];exact X⟩
  exact .inr ⟨Q,j,x,l,m',S,T,U,V,W,X,a8,by rw[G _ (by simp only;omega)];exact a9,R⟩
 refine⟨⟨?_,λha=>?_,λq F A=>?_,λq F A J=>?_,λw r k L M N=>?_,λj r x l to hx k hc=>?_⟩,?_,G⟩
 ·rw[Yk]
  exact wV.upd h.above h.above z (oL _ z) (by simp only;rw[qx y,hn];exact Int.le_refl _)
 ·rw[G _ (by simp only;omega)];exact h.start ha
 ·by_cases e:q=p
  ·subst e
   unfold yS at A
   split at A
   ·rw[pK]at A
    obtain rfl:n=F:=by simpa using A
    exact⟨b,by omega,c,d,h0,h1⟩
   exact h.told _ _ A
  rw[ld _ _ _ _ e]at A;exact h.told _ _ A
 ·by_cases e:q=p
  ·subst e
   by_cases C:n<vT B q
   ·have Y:yS B B q n n q=some n:=by unfold yS;rw[if_pos C,pK]
    have Z:yS B O q n o q=some o:=by unfold yS;rw[if_pos C,pK]
    rw[Y]at A;obtain rfl:n=F:=by simpa using A
    exact⟨by omega,o,Z,E _ _ _ ho K,K⟩
   have Y:yS B B q n n q=B q:=by unfold yS;rw[if_neg C]
   have Z:yS B O q n o q=O q:=by unfold yS;rw[if_neg C]
   rw[Y]at A;obtain⟨L,D,M,N,P⟩:=h.orig _ _ A J;exact⟨L,D,by rw[Z];exact M,E _ _ _ N P,P⟩
  rw[ld _ _ _ _ e]at A;obtain⟨L,D,M,N,P⟩:=h.orig _ _ A J;exact⟨L,D,by rw[ld _ _ _ _ e];exact M,E _ _ _ N P,P⟩
 ·have:=h.waits w r k L M N
  rw[H (w,r) (by simp only;omega)];exact Int.le_trans (I _) this
 ·have:=h.legs j r x l to hx k hc
  rw[H (x.a.toNat,r) (by simp only;omega)];exact Int.le_trans (I _) this
 rw[Yk,yD];omega
theorem zQ.skip(C:zx g)(G:py g wt)(h:zQ g wt v s t u false 0 B O)(E:B (u,t)=none):zQ g wt v s t (u+1) false 0 B O:=by
 refine⟨h.above,h.start,h.told,h.orig,λw r A H I J=>?_,λj r x l F D A M=>?_⟩
 ·by_cases e:r=t/\w=u
  ·rw[e.1,e.2,kh E];exact h.big C _
  exact h.waits w r (by rcases A with A|⟨A,hr2|hr2⟩ <;> simp at * <;> omega) H I J
 have L:=G x (List.mem_of_getElem? D) l (yh A).1;have K:=(C.edges x (List.mem_of_getElem? D)).a0
 by_cases e:r=t/\x.a=u
 ·rw[e.1,show x.a.toNat=u by omega,kh E];have:=h.big C (x.b.toNat,F.toNat);omega
 exact h.legs j r x l F D A (by omega)
theorem zQ.wait(h:zQ g wt v s t u false 0 B O)(E:(t:Int)+1<g.h->zn g u ((t:Int)+1)=true->vT B (u,t+1)<=vT B (u,t)):zQ g wt v s t u true 0 B O:=by
 refine⟨h.above,h.start,h.told,h.orig,λw r A F C D=>?_,h.legs⟩
 by_cases e:r=t/\w=u
 ·obtain⟨rfl,rfl⟩:=e;exact E C D
 exact h.waits w r (by rcases A with A|⟨A,hr2|hr2⟩ <;> simp at * <;> omega) F C D
theorem zQ.edge(h:zQ g wt v s t u true i B O){x:zA}(G:g.edges[i]?=some x)(F:x.a=u->∀l A,zF g x t=some (l,A)->vT B (x.b.toNat,A.toNat)<=vT B (u,t)+wt l):zQ g wt v s t u true (i+1) B O:=by
 refine⟨h.above,h.start,h.told,h.orig,h.waits,λj r y l A C D H=>?_⟩
 by_cases e:r=t/\y.a=u/\j=i
 ·obtain⟨rfl,E,rfl⟩:=e
  rw[G]at C;obtain rfl:x=y:=by simpa using C
  have:=F E l A D;rw[show x.a.toNat=u by omega];exact this
 exact h.legs j r y l A C D (by omega)
theorem zQ.nextV(h:zQ g wt v s t u true g.edges.length B O):zQ g wt v s t (u+1) false 0 B O:=by
 refine⟨h.above,h.start,h.told,h.orig,λw r A D E F=>?_,λj r x l G C A H=>?_⟩
 ·exact h.waits w r (by rcases A with A|⟨A,hr2|hr2⟩ <;> simp at * <;> omega) D E F
 have:=(List.getElem?_eq_some_iff.1 C).1;exact h.legs j r x l G C A (by omega)
theorem zQ.nextT(H:zx g)(h:zQ g wt v s t g.lives.length false 0 B O):zQ g wt v s (t+1) 0 false 0 B O:=by
 refine⟨h.above,h.start,h.told,λp n I C=>?_,λw r A E F G=>?_,λj r x l J D A M=>?_⟩
 ·obtain⟨E,o,F,G,N⟩:=h.orig p n I C
  exact⟨E,o,F,G,by omega⟩
 ·exact h.waits w r (by rcases A with A|⟨A,hr2|hr2⟩ <;> simp at * <;> omega) E F G
 have K:=(H.edges x (List.mem_of_getElem? D)).a0;have L:=(H.edges x (List.mem_of_getElem? D)).a1;exact h.legs j r x l J D A (by omega)
theorem zQ.ends(A:zx g)(F:0<=v/\v<g.lives.length)(D:0<=s)(h:zQ g wt v s t 0 false 0 B O)(E:g.h<=t):uH g wt v s (vT B):=by
 refine⟨⟨λp=>?_,?_⟩,h.above⟩
 ·unfold wH
  split
  ·rename_i hp
   have e:p=(v.toNat,s.toNat):=Prod.ext (by simp only;omega) (by simp only;omega);rw[e,qx (h.start hp.1)];exact Int.le_refl _
  exact h.big A p
 rintro y (⟨w,r,rfl,h1,h2,h3⟩|⟨x,l,to,r,hx,ha,rfl⟩)
 ·exact h.waits w r (.inl (by omega)) h1 h2 h3
 obtain⟨j,C⟩:=List.getElem?_of_mem hx;have:=zT A (A.edges x hx) ha;exact h.legs j r x l to C ha (.inl (by omega))
end
def yG(d:Nat×Nat->Int)(v:Nat):Nat->Int×Int
 |0=>(zq,0)
 |k+1=>if d (v,k)<(yG d v k).1 then (d (v,k),(k:Int)) else yG d v k
theorem lP(d:Nat×Nat->Int)(v:Nat):∀k,(yG d v k).1<=zq
 |0=>Int.le_refl _
 |k+1=>by
  have ih:=lP d v k;rw[yG]
  split
  ·simp only;omega
  exact ih
theorem gz{d:Nat×Nat->Int}{v:Nat}:∀{k:Nat},(yG d v k).1<zq->∃r:Nat,r<k/\(yG d v k).2=r/\d (v,r)=(yG d v k).1
 |0,h=>by simp[yG]at h
 |k+1,h=>by
  rw[yG]at h⊢
  by_cases c:d (v,k)<(yG d v k).1
  ·rw[if_pos c]
   exact⟨k,by omega,rfl,rfl⟩
  rw[if_neg c]at h⊢;obtain⟨r,h1,h2,h3⟩:=gz h;exact⟨r,by omega,h2,h3⟩
def ox(g:zf)(d:Nat×Nat->Int):List Int:=(List.range g.lives.length).map λu=>(yG d u g.h.toNat).1
def Zl(g:zf)(wt:zR->Int)(v s:Int)(l:List Int):Prop:=∃d,uH g wt v s d/\l=ox g d
theorem Zl.eq{g:zf}{wt:zR->Int}{v s:Int}{l r:List Int}(h:Zl g wt v s l)(k:Zl g wt v s r):l=r:=by
 obtain⟨d,A,rfl⟩:=h;obtain⟨e,B,rfl⟩:=k;rw[A.eq B]
def yN(g:zf)(wt:zR->Int)(v s:Int)(l:List Int):Prop:=if zm g v s=0 then Zl g wt v s l else l=[]
theorem VH{g:zf}{d:Nat×Nat->Int}{k:Nat}(h:k<g.lives.length):(ox g d)[k]?=some (yG d k g.h.toNat).1:=by simp[ox,h]
theorem dx(g:zf)(d:Nat×Nat->Int):(ox g d).length=g.lives.length:=by simp[ox]
set_option maxRecDepth 100000
open Go.RowKit
open Go.Maps (Keyed has atKey_put_same atKey_put_other has_put_same has_put_other atKey_of_not_has)
theorem Uk:(200:TypeId)<Tryz.prog.types.size:=of_decide_eq_true (by kernel_rfl)
theorem US:Tryz.prog.keyTypeAt 2 200=true:=by kernel_rfl
theorem Tb:(match Tryz.prog.underlying 200 with|some (.array _ _)|some (.struct _)=>true|_=>false)=true:=by rw[Tryz.underlying200]
theorem ZP:Keyed Tryz.prog 200:=Keyed.of_law (deep_law_laid Tryz.laidOut (m:=2) (by omega) Uk US Tb)
def PG(p:Nat×Nat):Lit:=.string (keyBytes [.int .i64 (p.1:Int),.int .i64 (p.2:Int)])
def OR(p:Nat×Nat):Value:=.agg #[.int .i64 (p.1:Int),.int .i64 (p.2:Int)]
def Yw(p:Nat×Nat):Prop:=p.1<=1000/\p.2<=1000
theorem VC:Tryz.prog.keyType 200=true:=by kernel_rfl
theorem TM(a b:Int):(Value.agg #[.int .i64 a,.int .i64 b]).formed Tryz.prog 200=true:=by
 simp[Value.formed,Tryz.underlying200,show Tryz.prog.cellsOf 200=2 by kernel_rfl]
theorem PL(a b:Int)(A:(Lit.int .i64 a).wf=true)(B:(Lit.int .i64 b).wf=true):Tryz.prog.keyLits (Tryz.prog.types.size+1) 200 [.int .i64 a,.int .i64 b]=some [.int .i64 a,.int .i64 b]:=by
 obtain⟨k,C⟩:∃k,Tryz.prog.types.size=k+1:=Nat.exists_eq_add_one.2 (Nat.lt_of_le_of_lt (Nat.zero_le _) Uk);rw[C];simp[Program.keyLits,Tryz.underlying200,Tryz.underlying3,show Tryz.prog.cellsOf 200=2 by kernel_rfl,show Tryz.prog.cellsOf 3=1 by kernel_rfl,A,B]
theorem WD{n:Nat}(h:n<=1000):(Lit.int .i64 (n:Int)).wf=true:=WalkArith.wf_i64 (by omega)
theorem gu{p:Nat×Nat}(h:Yw p):keyOf Tryz.prog 200 (OR p)=some (PG p):=by
 unfold keyOf;rw[Tryz.underlying200];simp only[OR,VC,TM,Bool.and_self,if_true];show(Tryz.prog.keyLits (Tryz.prog.types.size+1) 200 [.int .i64 (p.1:Int),.int .i64 (p.2:Int)]).map _=_;rw[PL _ _ (WD h.1) (WD h.2)];rfl
theorem OA{p q:Nat×Nat}(B:Yw p)(C:Yw q)(h:PG p=PG q):p=q:=by
 have A:=gu B;rw[h]at A;have:=ZP.inj A (gu C);simp only[OR,Value.agg.injEq,Array.mk.injEq,List.cons.injEq,Value.int.injEq,true_and,and_true]at this;exact Prod.ext (by omega) (by omega)
theorem Qv{p:Nat×Nat}(h:Yw p):WideAt.IsKeyLit (PG p):=ZP.key (gu h)
def rV(v:Value):Option (DataW Value×List MemPlace):=some (.held v,[])
section
variable {α:Type}
def zN(enc:α->Value)(w:World)(b n:Nat)(F:qI α):Prop:=∃D:DataW Value,w.ownsMap Tryz.prog 200 rV b n D/\∀p,Yw p->match F p with
 |some a=>has D (PG p)=true/\∀z,D.atKey (PG p) z=.held (enc a)
 |none=>has D (PG p)=false
variable {enc:α->Value}{w:World}{b n:Nat}{F:qI α}
theorem zN.made(enc:α->Value)(w:World):zN enc (w.alloc (.map #[] 0)) w.heap.size 0 (λ_=>none):=⟨_,World.ownsMap_made _ _ _ _,λ_ _=>rfl⟩
theorem zN.mono(h:zN enc w b n F){m:Nat}(C:n<=m):zN enc w b m F:=by
 obtain⟨D,A,B⟩:=h;exact⟨D,A.mono C,B⟩
theorem zN.lt(h:zN enc w b n F):b<w.heap.size:=by
 obtain⟨D,A,_⟩:=h;exact A.lt
theorem zN.grown(h:zN enc w b n F){C:World}{A:Option Nat}(H:w.grownBy C A)(B:some b≠A):zN enc C b n F:=by
 obtain⟨D,E,G⟩:=h;exact⟨D,E.kept H B,G⟩
theorem zN.alloc(h:zN enc w b n F)(o:Obj):zN enc (w.alloc o) b n F:=by
 obtain⟨D,A,B⟩:=h;exact⟨D,A.alloc o,B⟩
theorem zN.drew(h:zN enc w b n F):zN enc w.drew b n F:=h
theorem zN.far(h:zN enc w b n F){a:Addr}(C:b≠a.block)(u:Value):zN enc (w.setCell a u) b n F:=by
 obtain⟨D,A,B⟩:=h;exact⟨D,A.setCell C u,B⟩
theorem zN.noBlk(h:zN enc w b n F){g:Nat}{t:TypeId}{cs:Array Value}(B:zj w g t cs):g≠b:=by
 obtain⟨D,⟨E,A,C,_⟩,_⟩:=h;rintro rfl;unfold zj at B;rw[C]at B;simp at B
theorem zN.look(h:zN enc w b n F){t e:TypeId}(J:Tryz.prog.underlying t=some (.map 200 e)){z:Value}(K:(zeroValue e).run Tryz.prog w=.ok z w){p:Nat×Nat}(G:Yw p) :
  (Instr.lookup t (.map (some b)) (.agg #[.int .i64 (p.1:Int),.int .i64 (p.2:Int)]) true).run Tryz.prog w=.ok (.tuple #[((F p).map enc).getD z,.bool (F p).isSome]) w:=by
 obtain⟨D,H,I⟩:=h;obtain⟨v,L,B,C⟩:=H.look_ok ZP J K (zd:=.held z) (zp:=[]) rfl (gu G);have A:=I p G;simp only[rV,Option.some.injEq,Prod.mk.injEq]at C;rw[show(Value.agg #[.int .i64 (p.1:Int),.int .i64 (p.2:Int)])=OR p from rfl,B]
 cases E:F p with
 |none=>
  rw[E]at A;rw[A];have:=C.1;rw[atKey_of_not_has A]at this;simp only[DataW.held.injEq]at this;rw[this];rfl
 |some a=>
  rw[E]at A;rw[A.1];have:=C.1;rw[A.2]at this;simp only[DataW.held.injEq]at this;rw[this];rfl
theorem zN.store(h:zN enc w b n F){t e:TypeId}(N:Tryz.prog.underlying t=some (.map 200 e))(M:n<maxLen){p:Nat×Nat}(E:Yw p)(a:α) :
  ∃C,(Instr.mapUpdate t (.map (some b)) (.agg #[.int .i64 (p.1:Int),.int .i64 (p.2:Int)]) (enc a)).run Tryz.prog w=.ok () C/\zN enc C b (n+1) (jo F p a)/\w.mapTurned C b:=by
 obtain⟨D,G,J⟩:=h;obtain⟨C,B,K,L⟩:=G.store ZP N M (gu E) (val:=enc a) (d:=.held (enc a)) (ps:=[]) rfl;refine⟨C,B,⟨_,K,λq I=>?_⟩,L⟩
 by_cases e:q=p
 ·subst e
  rw[pK];exact⟨has_put_same G.isMap (Qv E) _,λz=>atKey_put_same G.isMap (Qv E) _ z⟩
 have A:PG q≠PG p:=λh=>e (OA I E h);rw[iF _ _ e];have:=J q I
 cases H:F q with
 |none=>
  rw[H]at this;simp only;rw[has_put_other A];exact this
 |some a'=>
  rw[H]at this;simp only;rw[has_put_other A];exact⟨this.1,λz=>by rw[atKey_put_other A];exact this.2 z⟩
theorem zj.turned{w B:World}{b g:Nat}{t:TypeId}{cs:Array Value}(h:zj w g t cs)(C:w.mapTurned B b)(A:g≠b):zj B g t cs:=by
 have:=C.grown.block g h.lt (by simpa using A);exact this.trans h
theorem wE{k:Nat}{w0 w w':World}{b:Nat}(h:Below k w0 w)(hT:w.mapTurned w' b)(hk:k<=w.heap.size)(hb:k<=b):Below k w0 w':=h.grown hT.grown hk (λj hj=>by cases hj;exact hb)
variable {P:Program}{ops:Array Oper}{rest:List Oper}{o:Oper}{a:Act}{Q:Exit->Act->World->Prop}
theorem gY(H:o.guard=none)(m x v:Operand)(t:TypeId)(E:o.op=Op.mapUpdate t m x v)(e:TypeId)(L:Tryz.prog.underlying t=some (.map 200 e))(enc:α->Value)(b n:Nat)(F:qI α)
  (I:a.eval m=.map (some b)) (A:zN enc w b n F) (J:n<maxLen) (p:Nat×Nat) (K:Yw p) (y:α) (N:a.eval x=.agg #[.int .i64 (p.1:Int),.int .i64 (p.2:Int)]) (M:a.eval v=enc y)
  (G:∀C,zN enc C b (n+1) (jo F p y)->w.mapTurned C b->wpList Tryz.prog ops Q rest (a.put o.dst undef) C):wpList Tryz.prog ops Q (o::rest) a w:=by
 refine wpList_plain H λR D=>?_;obtain⟨C,B,O,P⟩:=A.store L J K y;unfold Oper.wp;simp[execOp,E,I,N,M,B,Result.andThen];exact D _ _ (G C O P)
end
end Go.Proofs.YtjcimdpldlamfaaGreatDoor
