import Derived.Test.YtjcimdpldlamfaaGreatDoorAl
import Derived.Test.YtjcimdpldlamfaaGreatDoorBda3d75061b5
namespace Go.Proofs.YtjcimdpldlamfaaGreatDoor
set_option maxHeartbeats 1000000
open Go.RowKit
theorem ZY(A E:Option Addr)(c F:Nat)(g:zf)(p v:Int)(w:World)(K:zv w A c E F g) :
  Calls Tryz.prog 85 #[gV A c E F g,.int .i64 p,.int .i64 v] w λe X=>e=.returned (.int .i64 (zZ g p v))/\Below w.heap.size w X:=by
 have f:g.lives.length<=9223372036854775807:=Ai K.lc K.cm;have V:IntKind.i64.wrap ((g.lives.length:Int)-1)=(g.lives.length:Int)-1:=AQ _ (by omega);have O:Hid (zZ g p v=if zz g=0 then (if 1<=p/\p<=3 then (if p≠3/\¬(0<=v/\v<g.lives.length) then 4 else 0) else 1) else zz g):=zc rfl
 by_cases D:zz g=0
 case neg=>
  have T:Hid (zZ g p v=zz g):=zc (by rw[O.out,Au D]);have d:(zz g != 0)=true:=by simp[D]
  clear D
  go_enter Tryz.func85,Tryz.ntmps85
  go_wp2_with fail;refine(uc _ _ _ _ g _ (K.ext (by go_grown))).mono ?_;rintro e H ⟨rfl,B⟩;have C:Below w.heap.size w H:=za (by go_grown) B;go_wp2_with fail;go_ret;exact⟨zC T.out.symm,C⟩
 by_cases J:1<=p/\p<=3
 case neg=>
  have L:Hid (zZ g p v=1):=zc (by rw[O.out,Aq D,Au J]);have G:=xh p 1 3;rw[nI J]at G;have N:=zc G;have I:=zc (uc A E c F g _ (K.ext (ze (Ae w.heap.size w) (Obj.cells (gC A c E F g) 68))));rw[D]at I;clear J G D
  go_enter Tryz.func85,Tryz.ntmps85
  go_wp2_with fail;refine I.out.mono ?_;rintro e H ⟨rfl,B⟩;have C:Below w.heap.size w H:=za (by go_grown) B;go_wp2_with fail;refine(N.out _).mono ?_;rintro e S ⟨rfl,rfl⟩;go_wp2_with fail;go_ret;exact⟨zC L.out.symm,C⟩
 have G:=xh p 1 3;rw[lN J]at G;have N:=zc G;have I:=zc (uc A E c F g _ (K.ext (ze (Ae w.heap.size w) (Obj.cells (gC A c E F g) 68))));rw[D]at I;have L:Hid (zZ g p v=if p≠3/\¬(0<=v/\v<g.lives.length) then 4 else 0):=zc (by rw[O.out,Aq D,Aq J]);clear G J D O
 by_cases P:p=3
 ·subst P
  have M:Hid (zZ g 3 v=0):=zc (by rw[L.out,Au (by simp)])
  go_enter Tryz.func85,Tryz.ntmps85
  go_wp2_with fail;refine I.out.mono ?_;rintro e H ⟨rfl,B⟩;have C:Below w.heap.size w H:=za (by go_grown) B;go_wp2_with fail;refine(N.out _).mono ?_;rintro e S ⟨rfl,rfl⟩;go_wp2_with fail;go_ret;exact⟨zC M.out.symm,C⟩
 have W:(p != 3)=true:=by simp[P]
 obtain⟨r,Q⟩:∃r,vQ v 0 ((g.lives.length:Int)-1)=r:=⟨_,rfl⟩;have M:Hid (zZ g p v=if r then 0 else 4):=zc (by
  rw[L.out,<-Q]
  by_cases h:0<=v/\v<g.lives.length
  ·rw[Au (by intro k;exact k.2 h),lN (by omega),Aq rfl]
  rw[Aq ⟨P,h⟩,nI (by omega)];rfl)
 have R:=xh v 0 ((g.lives.length:Int)-1);rw[Q]at R;have U:=zc R;clear P Q R
 go_enter Tryz.func85,Tryz.ntmps85
 go_wp2_with fail;refine I.out.mono ?_;rintro e H ⟨rfl,B⟩;obtain⟨Y,Z,a,b⟩:=(zj.new w 68 (gC A c E F g)).go B;have C:Below w.heap.size w H:=za (by go_grown) B;go_wp2_with fail;refine(N.out _).mono ?_;rintro e S ⟨rfl,rfl⟩;go_wp2_with fail;refine(U.out _).mono ?_;rintro e S ⟨rfl,rfl⟩
 cases r with
 |true=>
  go_wp2_with fail;go_ret;exact⟨zC (by rw[M.out];rfl),C⟩
 |false=>
  go_wp2_with fail;go_ret;exact⟨zC (by rw[M.out];rfl),C⟩
def Yf(f:Nat->Nat):Nat->Nat
 |0=>0
 |k+1=>Yf f k+f k
theorem iM{f e:Nat->Nat}:∀k,(∀i,i<k->f i<=e i)->Yf f k<=Yf e k
 |0,_=>Ay _
 |k+1,h=>by
  have h1:=iM k λi hi=>h i (by omega);have h2:=h k (by omega);simp only[Yf];omega
theorem Yg{f e:Nat->Nat}:∀k i,i<k->(∀i,i<k->f i<=e i)->f i<e i->Yf f k<Yf e k
 |0,i,h,_,_=>by omega
 |k+1,i,hi,h,hlt=>by
  have h1:=iM k λi hi=>h i (by omega);have h2:=h k (by omega);simp only[Yf]
  by_cases e:i=k
  ·subst e;omega
  have:=Yg k i (by omega) (λi hi=>h i (by omega)) hlt;omega
def qv(n m:Nat)(d:Nat×Nat->Int):Nat:=Yf (λv=>Yf (λt=>(d (v,t)).toNat) m) n
def sW(d:Nat×Nat->Int)(p:Nat×Nat)(n:Int):Nat×Nat->Int:=upd d p (min (d p) n)
section
variable {d:Nat×Nat->Int}{p q:Nat×Nat}{n x:Int}
theorem ix:sW d p n p=min (d p) n:=yD _ _ _
theorem iy(h:¬q=p):sW d p n q=d q:=yx _ _ h
theorem ka:sW d p n q<=d q:=by
 by_cases h:q=p
 ·subst h;rw[ix];omega
 rw[iy h];exact Int.le_refl _
theorem cg(h:¬n<d p):sW d p n=d:=by
 unfold sW;rw[show min (d p) n=d p by omega,Pe]
theorem QO(h:n<d p):sW d p n=upd d p n:=by
 unfold sW;rw[show min (d p) n=n by omega]
theorem UV{a b:Nat}{e:Nat×Nat->Int}(h:∀q,e q<=d q):qv a b e<=qv a b d:=
 iM _ λv _=>iM _ λt _=>by have:=h (v,t);omega
theorem XJ{a b:Nat}(h1:p.1<a)(A:p.2<b)(h0:0<=n)(h:n<d p):qv a b (sW d p n)<qv a b d:=by
 refine Yg _ p.1 h1 (λv _=>iM _ λt _=>by have:=ka (d:=d) (p:=p) (n:=n) (q:=(v,t));omega) ?_;refine Yg _ p.2 A (λt _=>by have:=ka (d:=d) (p:=p) (n:=n) (q:=(p.1,t));omega) ?_;have:sW d p n (p.1,p.2)=n:=by rw[ix];omega
 rw[this];have:d (p.1,p.2)=d p:=rfl;omega
end
structure np(g:zf)(v s:Int)(C H:Nat×Nat->Int):Prop where
 ac:wV (mD g ul) (wH g v s) C
 ah:wV (mD g qu) (wH g v s) H
 ic:∀p,C p<=wH g v s p
 ih:∀p,H p<=wH g v s p
 told:∀p,C p<zq->p.1<g.lives.length/\(p.2:Int)<g.h/\0<=C p/\C p<=1000*(p.2:Int)/\0<=H p/\H p<=(p.2:Int)
 both:∀p,¬C p<zq->C p=zq/\H p=zq
section
variable {g:zf}{v s:Int}{C H C0 H0:Nat×Nat->Int}
theorem np.init(C:0<=v/\v<g.lives.length)(B:0<=s/\s<g.h):np g v s (wH g v s) (wH g v s):=by
 refine⟨wM,wM,λ_=>Int.le_refl _,λ_=>Int.le_refl _,λp A=>?_,λp A=>?_⟩
 ·unfold wH at A⊢
  split at A
  ·rename_i h
   rw[Aq h];omega
  omega
 have:=oS (g:=g) (v:=v) (t:=s) p;omega
theorem np.big(h:np g v s C H)(p:Nat×Nat):C p<=zq:=Int.le_trans (h.ic p) (oS p)
theorem np.bigH(h:np g v s C H)(p:Nat×Nat):H p<=zq:=Int.le_trans (h.ih p) (oS p)
theorem np.low(h:np g v s C H)(p:Nat×Nat):0<=C p/\0<=H p:=by
 by_cases A:C p<zq
 ·have:=h.told p A;omega
 have:=h.both p A;simp only[zq]at this;omega
theorem np.same(h:np g v s C H)(p:Nat×Nat)(B:zx g):C p<zq↔H p<zq:=by
 constructor
 ·intro A
  have:=h.told p A;have:=B.h1;simp only[zq];omega
 intro A;refine Classical.byContradiction λD=>?_;have:=h.both p D;omega
theorem np.put(h:np g v s C H)(B:zx g){q p:Nat×Nat}{fc fh:Int->Int}{nc nh:Int}(_hq:C q<zq)(E:mD g ul ⟨q,p,fc⟩)(F:mD g qu ⟨q,p,fh⟩)(G:fc (C q)=nc)(I:fh (H q)=nh)
  (h1:p.1<g.lives.length) (K:(p.2:Int)<g.h) (L:0<=nc) (M:nc<=1000*(p.2:Int)) (N:0<=nh) (O:nh<=(p.2:Int)):np g v s (sW C p nc) (sW H p nh):=by
 refine⟨?_,?_,λr=>Int.le_trans ka (h.ic r),λr=>Int.le_trans ka (h.ih r),λr A=>?_,λr A=>?_⟩
 ·exact wV.upd h.ac h.ac E (oL _ E) (by simp only;rw[G];exact Int.le_refl _)
 ·exact wV.upd h.ah h.ah F (oL _ F) (by simp only;rw[I];exact Int.le_refl _)
 ·by_cases e:r=p
  ·subst e
   rw[ix]at A⊢;rw[ix];have Q:=h.low r
   by_cases D:C r<zq
   ·have:=h.told r D
    omega
   have J:=h.both r D;have P:=B.h1;simp only[zq]at J;omega
  rw[iy e]at A⊢;rw[iy e];exact h.told r A
 by_cases e:r=p
 ·subst e
  rw[ix]at A;have:=B.h1;simp only[zq]at A;omega
 rw[iy e]at A⊢;rw[iy e];exact h.both r A
structure uY(g:zf)(v s:Int)(C0 H0:Nat×Nat->Int)(more:Bool)(t u i:Nat)(C H:Nat×Nat->Int):Prop where
 inv:np g v s C H
 tot:qv g.lives.length g.h.toNat C+qv g.lives.length g.h.toNat H<=qv g.lives.length g.h.toNat C0+qv g.lives.length g.h.toNat H0
 less:more=true->qv g.lives.length g.h.toNat C+qv g.lives.length g.h.toNat H<qv g.lives.length g.h.toNat C0+qv g.lives.length g.h.toNat H0
 waits:more=false->∀w r:Nat,(r<t∨r=t/\w<u)->w<g.lives.length->(r:Int)+1<g.h->zn g w ((r:Int)+1)=true->C (w,r+1)<=C (w,r)/\H (w,r+1)<=H (w,r)
 legs:more=false->∀(j r:Nat) x l to,g.edges[j]?=some x->zF g x r=some (l,to)->(r<t∨r=t/\j<i) ->
  C (x.b.toNat,to.toNat)<=C (x.a.toNat,r)+ul l/\H (x.b.toNat,to.toNat)<=H (x.a.toNat,r)+qu l
theorem uY.start(h:np g v s C H):uY g v s C H false 0 0 0 C H:=⟨h,Ay _,λh=>by simp at h,λ_ w r hr=>by omega,λ_ j r x l to _ _ hr=>by omega⟩
variable {more:Bool}{t u i:Nat}
theorem uY.put(h:uY g v s C0 H0 more t u i C H)(R:zx g){q p:Nat×Nat}{fc fh:Int->Int}{nc nh:Int}(S:C q<zq)(T:mD g ul ⟨q,p,fc⟩)(U:mD g qu ⟨q,p,fh⟩)(M:fc (C q)=nc)(N:fh (H q)=nh)
  (h1:p.1<g.lives.length) (O:(p.2:Int)<g.h) (J:0<=nc) (P:nc<=1000*(p.2:Int)) (K:0<=nh) (Q:nh<=(p.2:Int)) {A:Bool} (L:A=((more || decide (nc<C p)) || decide (nh<H p))) :
  uY g v s C0 H0 A t u i (sW C p nc) (sW H p nh)/\(A=false->C p<=nc/\H p<=nh/\sW C p nc=C/\sW H p nh=H):=by
 have D:A=false->more=false/\C p<=nc/\H p<=nh/\sW C p nc=C/\sW H p nh=H:=λB=>by
  rw[L]at B;simp only[Bool.or_eq_false_iff,decide_eq_false_iff_not]at B;exact⟨B.1.1,by omega,by omega,cg B.1.2,cg B.2⟩
 have W:qv g.lives.length g.h.toNat (sW C p nc)<=qv g.lives.length g.h.toNat C:=UV λ_=>ka;have X:qv g.lives.length g.h.toNat (sW H p nh)<=qv g.lives.length g.h.toNat H:=UV λ_=>ka;have V:=h.tot;refine⟨⟨h.inv.put R S T U M N h1 O J P K Q,by omega,λB=>?_,λB=>?_,λB=>?_⟩,λB=>(D B).2⟩
 ·by_cases G:more=true
  ·have:=h.less G
   omega
  by_cases E:nc<C p
  ·have:=XJ (a:=g.lives.length) (b:=g.h.toNat) h1 (by omega) J E
   omega
  by_cases F:nh<H p
  ·have:=XJ (a:=g.lives.length) (b:=g.h.toNat) h1 (by omega) K F
   omega
  rw[L]at B;simp[E,F,G]at B
 ·obtain⟨E,_,_,F,I⟩:=D B
  rw[F,I];exact h.waits E
 obtain⟨E,_,_,F,I⟩:=D B;rw[F,I];exact h.legs E
theorem uY.moreW(h:uY g v s C0 H0 more t u i C H)(E:more=false->(t:Int)+1<g.h->zn g u ((t:Int)+1)=true->C (u,t+1)<=C (u,t)/\H (u,t+1)<=H (u,t)):uY g v s C0 H0 more t (u+1) i C H:=by
 refine⟨h.inv,h.tot,h.less,λA w r G F B D=>?_,h.legs⟩
 by_cases e:r=t/\w=u
 ·obtain⟨rfl,rfl⟩:=e;exact E A B D
 exact h.waits A w r (by omega) F B D
theorem uY.moreL(h:uY g v s C0 H0 more t u i C H){x:zA}(G:g.edges[i]?=some x)(F:more=false->∀l A,zF g x t=some (l,A)->C (x.b.toNat,A.toNat)<=C (x.a.toNat,t)+ul l/\H (x.b.toNat,A.toNat)<=H (x.a.toNat,t)+qu l) :
  uY g v s C0 H0 more t u (i+1) C H:=by
 refine⟨h.inv,h.tot,h.less,h.waits,λD j r y l A B E I=>?_⟩
 by_cases e:r=t/\j=i
 ·obtain⟨rfl,rfl⟩:=e
  rw[G]at B;obtain rfl:x=y:=by simpa using B
  exact F D l A E
 exact h.legs D j r y l A B E (by omega)
theorem uY.skipW(h:uY g v s C0 H0 more t u i C H)(hn:¬(C (u,t)<zq/\(t:Int)+1<g.h/\zn g u ((t:Int)+1)=true)):uY g v s C0 H0 more t (u+1) i C H:=
 h.moreW λ_ k1 k2=>by
  have hc:¬C (u,t)<zq:=λhc=>hn ⟨hc,k1,k2⟩;obtain⟨e1,e2⟩:=h.inv.both _ hc;rw[e1,e2];exact⟨h.inv.big _,h.inv.bigH _⟩
theorem uY.wait(h:uY g v s C0 H0 more t u i C H)(N:zx g)(D:C (u,t)<zq)(E:(t:Int)+1<g.h)(F:zn g u ((t:Int)+1)=true){A:Bool}(P:A=((more || decide (C (u,t)<C (u,t+1))) || decide (H (u,t)<H (u,t+1)))) :
  uY g v s C0 H0 A t (u+1) i (sW C (u,t+1) (C (u,t))) (sW H (u,t+1) (H (u,t))):=by
 have B:=h.inv.told _ D;simp only at B;obtain⟨G,I⟩:=h.put N (q:=(u,t)) (p:=(u,t+1)) (fc:=λn=>n) (fh:=λn=>n) D (.inl ⟨u,t,rfl,B.1,E,F⟩) (.inl ⟨u,t,rfl,B.1,E,F⟩) rfl rfl B.1 (by simp only;omega) (by omega) (by simp only;omega) (by omega) (by simp only;omega) P;refine G.moreW λO _ _=>?_;obtain⟨J,K,L,M⟩:=I O;rw[L,M];exact⟨J,K⟩
theorem uY.skipL(h:uY g v s C0 H0 more t u i C H)(hV:zx g){x:zA}(hx:g.edges[i]?=some x)(hn:zF g x t=none∨¬C (x.a.toNat,t)<zq):uY g v s C0 H0 more t u (i+1) C H:=
 h.moreL hx λ_ l to hr=>by
  rcases hn with hn|hn
  ·rw[hn]at hr;simp at hr
  obtain⟨e1,e2⟩:=h.inv.both _ hn;have h1:=ro hV x (Ad hx) l (yh hr).1;have h2:=h.inv.big (x.b.toNat,to.toNat);have h3:=h.inv.bigH (x.b.toNat,to.toNat);rw[e1,e2];simp only[qu];omega
theorem uY.leg(h:uY g v s C0 H0 more t u i C H)(F:zx g){x:zA}(K:g.edges[i]?=some x){l:zR}{to:Int}(E:zF g x t=some (l,to))(J:C (x.a.toNat,t)<zq){A:Bool}
  (R:A=((more || decide (C (x.a.toNat,t)+l.cost<C (x.b.toNat,to.toNat))) || decide (H (x.a.toNat,t)+1<H (x.b.toNat,to.toNat)))) :
  uY g v s C0 H0 A t u (i+1) (sW C (x.b.toNat,to.toNat) (C (x.a.toNat,t)+l.cost)) (sW H (x.b.toNat,to.toNat) (H (x.a.toNat,t)+1)):=by
 have S:=h.inv.told _ J;simp only at S;have B:=Ad K;have I:=F.edges x B;have U:=I.b0;have V:=I.b1;have W:=zT F I E;have G:=ro F x B l (yh E).1;simp only[ul]at G;obtain⟨L,M⟩:=h.put F (q:=(x.a.toNat,t)) (p:=(x.b.toNat,to.toNat)) (fc:=λn=>n+ul l) (fh:=λn=>n+qu l) J (.inr ⟨x,l,to,t,B,E,rfl⟩) (.inr ⟨x,l,to,t,B,E,rfl⟩) rfl rfl (by simp only;omega) (by simp only;omega) (by simp only[ul];omega) (by simp only[ul];omega) (by simp only[qu];omega) (by simp only[qu];omega) R
 refine L.moreL K λQ X T D=>?_;rw[E]at D;simp only[Option.some.injEq,Prod.mk.injEq]at D;obtain⟨rfl,rfl⟩:=D;obtain⟨b1,N,O,P⟩:=M Q;rw[O,P];exact⟨b1,N⟩
theorem uY.nextT(h:uY g v s C0 H0 more t g.lives.length g.edges.length C H):uY g v s C0 H0 more (t+1) 0 0 C H:=
 ⟨h.inv,h.tot,h.less,λhm w r hr k1 k2 k3=>h.waits hm w r (by omega) k1 k2 k3,λhm j r x l to hx hr hc=>by
  have:=(AW.1 hx).1;exact h.legs hm j r x l to hx hr (by omega)⟩
theorem uY.fin(h:uY g v s C0 H0 false t 0 0 C H)(A:zx g)(D:g.h<=t):uH g ul v s C/\uH g qu v s H:=by
 refine⟨⟨⟨h.inv.ic,?_⟩,h.inv.ac⟩,⟨⟨h.inv.ih,?_⟩,h.inv.ah⟩⟩
 ·rintro y (⟨w,r,rfl,h1,h2,h3⟩|⟨x,l,to,r,hx,ha,rfl⟩)
  ·exact(h.waits rfl w r (.inl (by omega)) h1 h2 h3).1
  obtain⟨j,B⟩:=AM hx;have:=zT A (A.edges x hx) ha;exact(h.legs rfl j r x l to B ha (.inl (by omega))).1
 rintro y (⟨w,r,rfl,h1,h2,h3⟩|⟨x,l,to,r,hx,ha,rfl⟩)
 ·exact(h.waits rfl w r (.inl (by omega)) h1 h2 h3).2
 obtain⟨j,B⟩:=AM hx;have:=zT A (A.edges x hx) ha;exact(h.legs rfl j r x l to B ha (.inl (by omega))).2
end
def mx(d:Nat×Nat->Int)(m v:Nat):List Int:=(List.range m).map λt=>d (v,t)
theorem Wn(d:Nat×Nat->Int)(m v:Nat):(mx d m v).length=m:=by simp[mx]
theorem ke{d:Nat×Nat->Int}{m v t:Nat}(h:t<m):gi (mx d m v) t=d (v,t):=by unfold mx;rw[vh h]
theorem QS{d:Nat×Nat->Int}{m v t:Nat}(h:t<m)(x:Int):(mx d m v).set t x=mx (upd d (v,t) x) m v:=
 wN (by simp[mx]) λi A=>by
  have hi':i<m:=by simpa[mx]using A
  rw[vX (by simpa[mx]using h),ke hi']
  by_cases e:i=t
  ·rw[e,yD,yD]
  rw[yx _ _ e,yx _ _ (λh=>e (by simpa using h)),ke hi']
theorem Uj{d:Nat×Nat->Int}{m v w t:Nat}(h:¬w=v)(x:Int):mx (upd d (v,t) x) m w=mx d m w:=
 wN (by simp[mx]) λi B=>by
  have hi':i<m:=by simpa[mx]using B
  rw[ke hi',ke hi',yx _ _ (λA=>h (by simp only[Prod.mk.injEq]at A;exact A.1))]
theorem Ui{m v:Nat}:mx (λ_=>zq) m v=List.replicate m zq:=wN (by simp[mx]) λi A=>by
 have hi':i<m:=by simpa[mx]using A
 rw[ke hi'];exact(vE (by simp[hi'])).symm
theorem Own.keep1{α:Type}{enc:α->List Value}{sz:Nat}{w B:World}{base:Nat}{e:TypeId}{v:Value}{l:List α}(h:Own enc sz w base e v l)(D:∀b A,some b=v.ownBlock->zj w b e A->zj B b e A):Own enc sz B base e v l:=by
 refine⟨h.1,?_⟩;rcases h.2 with C|⟨g,cap,cur,hv,hg,hh,r⟩
 ·exact .inl C
 exact .inr ⟨g,cap,cur,hv,hg,D g cur (by rw[hv];simp[Value.ownBlock]) hh,r⟩
def oD(u v:Value):Prop:=∀b,some b=u.ownBlock->some b=v.ownBlock->False
theorem oD.nil{v:Value}:oD (.slice none 0 0) v:=λb h=>by simp[Value.ownBlock]at h
theorem oD.symm{u v:Value}(h:oD u v):oD v u:=λb h1 h2=>h b h2 h1
theorem oD.put{α:Type}{enc:α->List Value}{sz:Nat}{w:World}{base n c g:Nat}{e:TypeId}{u v:Value}{l:List α}(h:oD u v)(D:Own enc sz w base e v l)(A:u.ownBlock=some g∨w.heap.size<g):oD (.slice (some ⟨g,0,none⟩) n c) v:=λb C B=>by
 have e1:b=g:=by simpa[Value.ownBlock]using C
 subst e1;rcases A with A|A
 ·exact h b A.symm B
 have:=(World.ownsRow.lt D b B.symm).2;omega
abbrev pp:=Nat×Nat
def SS(m:Nat)(p:pp):List Value:=[.slice (some ⟨p.1,0,none⟩) m p.2]
theorem Wm{b m c:Nat}:∀u∈(#[.slice (some ⟨b,0,none⟩) m c]:Array Value).toList,u.oneCell'=true:=by simp[Value.oneCell']
theorem am:∀r:List Int,r.flatMap vi=r.map λn=>Value.int .i64 n
 |[]=>rfl
 |y::l=>by rw[List.flatMap_cons,am l];rfl
theorem an(m:Nat):∀l:List pp,l.flatMap (SS m)=l.map λp=>Value.slice (some ⟨p.1,0,none⟩) m p.2
 |[]=>rfl
 |y::l=>by rw[List.flatMap_cons,an m l];rfl
def qH(w:World)(b:Nat)(r:List Int):Prop:=∃cs,zj w b 3 cs/\∀(k:Nat) x,r[k]?=some x->cs[k]?=some (.int .i64 x)
def qh(w:World)(b m:Nat)(its:List pp):Prop:=∃cs,zj w b 55 cs/\∀(k:Nat) p,its[k]?=some p->cs[k]?=some (.slice (some ⟨p.1,0,none⟩) m p.2)
def uI(w:World)(m:Nat)(its:List pp)(d:Nat×Nat->Int):Prop:=∀v p,its[v]?=some p->qH w p.1 (mx d m v)
section
variable {w w':World}{b m base:Nat}{r:List Int}{its:List pp}{v:Value}{d:Nat×Nat->Int}
theorem qH.keep(h:qH w b r)(D:∀A,zj w b 3 A->zj w' b 3 A):qH w' b r:=by
 obtain⟨A,B,C⟩:=h;exact⟨A,D _ B,C⟩
theorem qH.lt(h:qH w b r):b<w.heap.size:=by
 obtain⟨B,A,_⟩:=h;exact A.lt
theorem qH.cell(h:qH w b r){k:Nat}(C:k<r.length):w.cell? ⟨b,k,none⟩=some (.int .i64 (gi r k)):=by
 obtain⟨D,A,B⟩:=h;rw[A.cell];exact B k _ (ou C)
theorem qH.set(h:qH w b r)(k:Nat)(D:k<r.length)(x:Int):qH (w.setCell ⟨b,k,none⟩ (.int .i64 x)) b (r.set k x):=by
 obtain⟨G,E,C⟩:=h;refine⟨_,E.set_ k _,λi y A=>?_⟩;have F:=C k _ (ou D);have B:=(Array.getElem?_eq_some_iff.1 F).1;rw[List.getElem?_set]at A;rw[Array.getElem?_setIfInBounds]
 by_cases e:k=i
 ·subst e
  rw[Aq rfl,Aq D]at A;rw[Aq rfl,Aq B];simpa using A
 rw[Au e]at A;rw[Au e];exact C i y A
theorem qH.slAt(h:qH w b r)(hi:∀x,x∈r->zM x):zU ra 1 w (some ⟨b,0,none⟩) r:=by
 obtain⟨D,A,C⟩:=h;refine⟨b,0,λi x B=>⟨rfl,A.lt,?_,hi x (Ad B)⟩⟩;unfold zJ;rw[Nat.zero_add,Nat.mul_one,A.cell];exact C i x B
theorem Own.rowAt{n c:Nat}{A:Option Addr}(h:Own vi 1 w base 3 (.slice A n c) r)(O:r≠[]):∃b,A=some ⟨b,0,none⟩/\base<=b/\qH w b r:=by
 rcases h.2 with⟨_,D⟩|⟨g,G,C,P,K,L,N,I,J,B⟩
 ·exact absurd (List.length_eq_zero_iff.1 D) O
 injection P with H D h3;refine⟨g,H,K,C,L,λk x F=>?_⟩;have M:=zy F;rw[am]at B;have E:(C.toList.take (r.length*1))[k]?=some (.int .i64 x):=by rw[B];simp[F]
 rw[List.getElem?_take_of_lt (by omega)]at E;simpa using E
theorem Own.outAt{n c:Nat}{A:Option Addr}(h:Own (SS m) 1 w base 55 (.slice A n c) its)(O:its≠[]):∃b,A=some ⟨b,0,none⟩/\base<=b/\qh w b m its:=by
 rcases h.2 with⟨_,D⟩|⟨g,G,C,P,K,L,N,I,J,B⟩
 ·exact absurd (List.length_eq_zero_iff.1 D) O
 injection P with H D h3;refine⟨g,H,K,C,L,λk x F=>?_⟩;have M:=zy F;rw[an]at B;have E:(C.toList.take (its.length*1))[k]?=some (.slice (some ⟨x.1,0,none⟩) m x.2):=by rw[B];simp[F]
 rw[List.getElem?_take_of_lt (by omega)]at E;simpa using E
theorem qh.keep(h:qh w b m its)(D:∀A,zj w b 55 A->zj w' b 55 A):qh w' b m its:=by
 obtain⟨A,B,C⟩:=h;exact⟨A,D _ B,C⟩
theorem qh.lt(h:qh w b m its):b<w.heap.size:=by
 obtain⟨B,A,_⟩:=h;exact A.lt
theorem qh.cell(h:qh w b m its){k:Nat}{p:pp}(C:its[k]?=some p):w.cell? ⟨b,k,none⟩=some (.slice (some ⟨p.1,0,none⟩) m p.2):=by
 obtain⟨D,A,B⟩:=h;rw[A.cell];exact B k p C
theorem uI.keep(h:uI w m its d)(hk:∀b cs,zj w b 3 cs->zj w' b 3 cs):uI w' m its d:=λv p hp=>(h v p hp).keep λ_=>hk _ _
theorem uI.nil:uI w m [] d:=λv p h=>by simp at h
theorem uI.snoc{c:Nat}(h:uI w m its d)(B:qH w b (mx d m its.length)):uI w m (its++[(b,c)]) d:=λv p A=>by
 by_cases hv:v<its.length
 ·rw[List.getElem?_append_left hv]at A
  exact h v p A
 have hl:=zy A;simp only[Ag,Ap,AC]at hl;obtain rfl:v=its.length:=by omega
 rw[List.getElem?_append_right (Ay _),Nat.sub_self]at A;obtain rfl:(b,c)=p:=by simpa using A
 exact B
theorem uI.lt(h:uI w m its d){p:pp}(A:p∈its):p.1<w.heap.size:=by
 obtain⟨v,B⟩:=AM A;exact(h v p B).lt
theorem uI.cell(h:uI w m its d){v t:Nat}{p:pp}(B:its[v]?=some p)(A:t<m):w.cell? ⟨p.1,t,none⟩=some (.int .i64 (d (v,t))):=by
 have:=(h v p B).cell (k:=t) (by rw[Wn];exact A)
 rwa[ke A]at this
theorem uI.frozen(h:uI w m its d){v:Nat}{p:pp}(B:its[v]?=some p)(t:Nat):w.frozen? ⟨p.1,t,none⟩=false:=by
 obtain⟨C,A,_⟩:=h v p B;exact A.frozen t
theorem uI.set(h:uI w m its d){v t:Nat}{p:pp}(C:its[v]?=some p)(E:t<m)(B:(its.map Prod.fst).Nodup)(x:Int):uI (w.setCell ⟨p.1,t,none⟩ (.int .i64 x)) m its (upd d (v,t) x):=λu q A=>by
 by_cases e:u=v
 ·subst e
  rw[C]at A;obtain rfl:p=q:=by simpa using A
  rw[<-QS E];exact(h u p C).set t (by rw[Wn];exact E) x
 rw[Uj e];refine(h u q A).keep λJ H=>H.far ?_ _;intro F;refine e ?_;have D:(its.map Prod.fst)[u]?=some q.1:=by rw[AU,A];rfl
 have G:(its.map Prod.fst)[v]?=some q.1:=by rw[AU,C];simp only[Option.map_some];rw[show q.1=p.1 from F]
 have I:=zy D;exact(List.getElem?_inj I B).1 (D.trans G.symm)
theorem uI.far(h:uI w m its d){a:Addr}(hne:∀p,p∈its->p.1≠a.block)(u:Value):uI (w.setCell a u) m its d:=λv p hp=>(h v p hp).keep λ_ hB=>hB.far (hne p (Ad hp)) u
structure WH(m bm:Nat)(its:List pp)(d:Nat×Nat->Int)(more:Bool)(v t:Nat)(x:Int)(w w':World):Prop where
 tab:uI w' m its (sW d (v,t) x)
 more:zj w' bm 4 #[.bool (more || decide (x<d (v,t)))]
 keep:∀b t cs,(∀p,p∈its->b≠p.1)->b≠bm->zj w b t cs->zj w' b t cs
 below:∀k (w0:World),Below k w0 w->(∀p,p∈its->k<=p.1)->k<=bm->Below k w0 w'
 size:w.heap.size<=w'.heap.size
end
set_option maxRecDepth 100000
set_option maxHeartbeats 2000000
theorem Ve:Enters Tryz.prog 127:=enters_of Tryz.func127 (by kernel_rfl) rfl
theorem uI.ne{w:World}{m g:Nat}{t:TypeId}{its:List pp}{d:Nat×Nat->Int}{cs:Array Value}(h:uI w m its d)(hB:zj w g t cs)(ht:3≠t):∀p,p∈its->p.1≠g:=λp hp=>by
 obtain⟨u,hu⟩:=AM hp;obtain⟨cs',h1,_⟩:=h u p hu;exact wv h1 hB ht
theorem UX(b n c m N v t:Nat)(B:List pp)(d:Nat×Nat->Int)(more:Bool)(x:Int)(w:World)(Y:qh w b m B)(Z:B.length=n)(G:uI w m B d)(O:zj w N 4 #[.bool more])(K:(B.map Prod.fst).Nodup)(i:v<n)(U:t<m) :
  Calls Tryz.prog 127 #[.slice (some ⟨b,0,none⟩) n c,.int .i64 (v:Int),.int .i64 (t:Int),.int .i64 x,.pointer (some ⟨N,0,none⟩)] w λe g=>e=.returned (.tuple #[])/\WH m N B d more v t x w g:=by
 obtain⟨p,E⟩:=zl (l:=B) (k:=v) (by omega);have j:=Y.cell E;have a:=G.cell E U;have o:=G.frozen E t;have L:=G.ne O (by decide);have R:p.1≠N:=L p (Ad E);obtain⟨q,r,s⟩:=O.facts;have F:=Ad E;have T:=(G.lt F);have V:=zc E;have H:=zc F;have P:=zc K;obtain⟨y,S⟩:∃y,d (v,t)=y:=⟨_,rfl⟩;have M:=zc S;rw[S]at a;clear E F K S Z
 by_cases A:x<y
 case pos=>
  have Q:decide (x<y)=true:=by simpa using A
  have C:=zc A;clear A
  go_enter Tryz.func127,Tryz.ntmps127
  go_wp2_with fail;refine⟨rfl,.tuple #[],by simp[results,Tryz.results127],?_⟩;refine⟨rfl,?_,?_,λW f X I J D=>?_,λk h D I J=>?_,by simp⟩
  ·rw[QO (by rw[M.out];exact C.out)]
   exact(G.set V.out U P.out x).far L _
  ·have:=(O.far (p:=⟨p.1,t,none⟩) (Ne.symm R) (.int .i64 x)).set_ 0 (.bool true)
   rw[M.out,Q];simpa using this
  ·exact(D.far (I p H.out) _).far J _
  exact(D.setCell (I p H.out) _).setCell J _
 have Q:decide (x<y)=false:=by simpa using A
 have C:=zc A;clear A
 go_enter Tryz.func127,Tryz.ntmps127
 go_wp2_with fail;refine⟨rfl,.tuple #[],by simp[results,Tryz.results127],?_⟩;refine⟨rfl,?_,?_,λW f X I J D=>D,λk h D I J=>D,Ay _⟩
 ·rw[cg (by rw[M.out];have:=C.out;omega)]
  exact G
 rw[M.out,Q,Bool.or_false];exact O
structure sy(w0:World)(gcs:Array Value)(m bc bh bm:Nat)(ic ih:List pp)(more:Bool)(C H:Nat×Nat->Int)(w:World):Prop where
 oc:qh w bc m ic
 oh:qh w bh m ih
 tc:uI w m ic C
 th:uI w m ih H
 mo:zj w bm 4 #[.bool more]
 gr:zj w w0.heap.size 68 gcs
 bel:Below w0.heap.size w0 w
structure Yv(w0:World)(n bm:Nat)(ic ih:List pp):Prop where
 nc:ic.length=n
 nh:ih.length=n
 dc:(ic.map Prod.fst).Nodup
 dh:(ih.map Prod.fst).Nodup
 apart:∀p q,p∈ic->q∈ih->p.1≠q.1
 lc:∀p,p∈ic->w0.heap.size<=p.1
 lh:∀p,p∈ih->w0.heap.size<=p.1
 lm:w0.heap.size<=bm
section
variable {w0 w w':World}{gcs:Array Value}{n m bc bh bm:Nat}{ic ih:List pp}{more:Bool}{C H:Nat×Nat->Int}{v t:Nat}{x:Int}
theorem sy.ext(M:sy w0 gcs m bc bh bm ic ih more C H w)(hb:Below w.heap.size w w'):sy w0 gcs m bc bh bm ic ih more C H w':=
 ⟨M.oc.keep λ_ h=>h.ext hb,M.oh.keep λ_ h=>h.ext hb,M.tc.keep λ_ _ h=>h.ext hb,M.th.keep λ_ _ h=>h.ext hb,M.mo.ext hb,M.gr.ext hb,za M.bel hb⟩
theorem sy.alloc(M:sy w0 gcs m bc bh bm ic ih more C H w)(o:Obj):sy w0 gcs m bc bh bm ic ih more C H (w.alloc o):=
 ⟨M.oc.keep λ_ h=>h.alloc o,M.oh.keep λ_ h=>h.alloc o,M.tc.keep λ_ _ h=>h.alloc o,M.th.keep λ_ _ h=>h.alloc o,M.mo.alloc o,M.gr.alloc o,ze M.bel o⟩
theorem sy.drew(M:sy w0 gcs m bc bh bm ic ih more C H w):sy w0 gcs m bc bh bm ic ih more C H w.drew:=
 ⟨M.oc.keep λ_ h=>h.drew,M.oh.keep λ_ h=>h.drew,M.tc.keep λ_ _ h=>h.drew,M.th.keep λ_ _ h=>h.drew,M.mo.drew,M.gr.drew,zi M.bel⟩
theorem sy.putC(M:sy w0 gcs m bc bh bm ic ih more C H w)(F:Yv w0 n bm ic ih)(P:WH m bm ic C more v t x w w'):sy w0 gcs m bc bh bm ic ih (more || decide (x<C (v,t))) (sW C (v,t) x) H w':=by
 have D:∀{b t A},zj w b t A->3≠t->4≠t->zj w' b t A:=λ{b t A} hB h1 h2=>P.keep _ _ _ (λp B=>(M.tc.ne hB h1 p B).symm) (wv M.mo hB h2).symm hB;refine⟨M.oc.keep λ_ h=>D h (by decide) (by decide),M.oh.keep λ_ h=>D h (by decide) (by decide),P.tab,?_,P.more,D M.gr (by decide) (by decide),P.below _ _ M.bel F.lc F.lm⟩;intro u q E;refine(M.th u q E).keep λA h=>P.keep _ _ _ (λp B=>(F.apart p q B (Ad E)).symm) (wv h M.mo (by decide)) h
theorem sy.putH(M:sy w0 gcs m bc bh bm ic ih more C H w)(F:Yv w0 n bm ic ih)(P:WH m bm ih H more v t x w w'):sy w0 gcs m bc bh bm ic ih (more || decide (x<H (v,t))) C (sW H (v,t) x) w':=by
 have D:∀{b t A},zj w b t A->3≠t->4≠t->zj w' b t A:=λ{b t A} hB h1 h2=>P.keep _ _ _ (λp B=>(M.th.ne hB h1 p B).symm) (wv M.mo hB h2).symm hB;refine⟨M.oc.keep λ_ h=>D h (by decide) (by decide),M.oh.keep λ_ h=>D h (by decide) (by decide),?_,P.tab,P.more,D M.gr (by decide) (by decide),P.below _ _ M.bel F.lh F.lm⟩;intro u q E;refine(M.tc u q E).keep λA h=>P.keep _ _ _ (λp B=>F.apart q p (Ad E) B) (wv h M.mo (by decide)) h
theorem sy.setMore(M:sy w0 gcs m bc bh bm ic ih more C H w)(B:w0.heap.size<=bm)(b:Bool):sy w0 gcs m bc bh bm ic ih b C H (w.setCell ⟨bm,0,none⟩ (.bool b)):=by
 have A:∀{t g cs},4≠t->zj w g t cs->zj (w.setCell ⟨bm,0,none⟩ (.bool b)) g t cs:=λ{t g cs} ht h=>h.far (wv M.mo h ht).symm _;exact⟨M.oc.keep λ_ h=>A (by decide) h,M.oh.keep λ_ h=>A (by decide) h,M.tc.keep λ_ _ h=>A (by decide) h,M.th.keep λ_ _ h=>A (by decide) h,by simpa using M.mo.set_ 0 (.bool b),A (by decide) M.gr,M.bel.setCell B _⟩
theorem sy.newMore(M:sy w0 gcs m bc bh bm ic ih more C H w)(b:Bool){k:Nat}(B:k=w.heap.size):sy w0 gcs m bc bh k ic ih b C H (w.alloc (.cells #[.bool b] 4)):=by
 have A:=M.alloc (.cells #[.bool b] 4);exact⟨A.oc,A.oh,A.tc,A.th,zj.new_ B,A.gr,A.bel⟩
theorem Yv.anew{k:Nat}(F:Yv w0 n bm ic ih)(hk:w0.heap.size<=k):Yv w0 n k ic ih:=⟨F.nc,F.nh,F.dc,F.dh,F.apart,F.lc,F.lh,hk⟩
theorem XY(I v t:Nat)(K J:Int)(E:K=v)(D:J=t)(M:sy w0 gcs m bc bh bm ic ih more C H w)(F:Yv w0 n bm ic ih)(Q:v<n)(P:t<m)(x:Int) :
  Calls Tryz.prog 127 #[.slice (some ⟨bc,0,none⟩) n I,.int .i64 K,.int .i64 J,.int .i64 x,.pointer (some ⟨bm,0,none⟩)] w λe G=>e=.returned (.tuple #[])/\sy w0 gcs m bc bh bm ic ih (more || decide (x<C (v,t))) (sW C (v,t) x) H G/\∀b t A,3≠t->4≠t->zj w b t A->zj G b t A:=by
 subst E D;exact(UX bc n I m bm v t ic C more x w M.oc F.nc M.tc M.mo F.dc Q P).mono λe G h=>⟨h.1,M.putC F h.2,λb t A L N B=>h.2.keep _ _ _ (λp O=>(M.tc.ne B L p O).symm) (wv M.mo B N).symm B⟩
theorem XZ(I v t:Nat)(K J:Int)(E:K=v)(D:J=t)(M:sy w0 gcs m bc bh bm ic ih more C H w)(F:Yv w0 n bm ic ih)(Q:v<n)(P:t<m)(x:Int) :
  Calls Tryz.prog 127 #[.slice (some ⟨bh,0,none⟩) n I,.int .i64 K,.int .i64 J,.int .i64 x,.pointer (some ⟨bm,0,none⟩)] w λe G=>e=.returned (.tuple #[])/\sy w0 gcs m bc bh bm ic ih (more || decide (x<H (v,t))) C (sW H (v,t) x) G/\∀b t A,3≠t->4≠t->zj w b t A->zj G b t A:=by
 subst E D;exact(UX bh n I m bm v t ih H more x w M.oh F.nh M.th M.mo F.dh Q P).mono λe G h=>⟨h.1,M.putH F h.2,λb t A L N B=>h.2.keep _ _ _ (λp O=>(M.th.ne B L p O).symm) (wv M.mo B N).symm B⟩
end
abbrev OS:=Nat×Int
def rg(s:ByteArray)(a n:Nat):List Int:=(List.range n).map λi=>(yl s (a+i):Int)
theorem kp(s:ByteArray)(a n m:Nat):rg s a (n+m)=rg s a n++rg s (a+n) m:=by
 unfold rg;rw[List.range_add,List.map_append,List.map_map]
 congr 1
 exact List.map_congr_left λi _=>by simp[Nat.add_assoc]
def UB(s:ByteArray)(r:OS)(ns:List Int)(q:OS):Prop:=q.2=0->r.2=0/\q.1=r.1+2*ns.length/\sJ ns=rg s r.1 (2*ns.length)
theorem UB.trans{s:ByteArray}{r q p:OS}{a b:List Int}(h:UB s r a q)(k:UB s q b p):UB s r (a++b) p:=λhp=>by
 obtain⟨k1,k2,k4⟩:=k hp;obtain⟨h1,h2,h4⟩:=h k1;refine⟨h1,by rw[Ag];omega,?_⟩;rw[show sJ (a++b)=sJ a++sJ b by simp[sJ],h4,k4,Ag,Nat.mul_add,kp,h2]
def Holds(s:ByteArray)(a:Nat)(ns:List Int):Prop:=a+2*ns.length<=s.size/\sJ ns=rg s a (2*ns.length)
theorem Holds.parts{s:ByteArray}{a:Nat}{x y:List Int}(h:Holds s a (x++y)):Holds s a x/\Holds s (a+2*x.length) y:=by
 obtain⟨C,A⟩:=h;rw[Ag]at C A;rw[show sJ (x++y)=sJ x++sJ y by simp[sJ],Nat.mul_add,kp]at A;have D:∀l:List Int,(sJ l).length=2*l.length:=λl=>by
  induction l with
  |nil=>rfl
  |cons z l ih=>rw[show sJ (z::l)=[z / 256,z % 256]++sJ l by simp[sJ],Ag,ih];simp;omega
 have B:=List.append_inj A (by rw[D];simp[rg]);exact⟨⟨by omega,B.1⟩,by omega,B.2⟩
def Cut{α:Type}(p q:α×OS):Prop:=q=p∨q.2.2=5
def ni(g:zf)(v e:Int)(u:Nat)(k n:Int):Prop:=(n=-1∨(n<k/\oE g v e u n))/\∀s,s<k->oE g v e u s->s<=n
section
variable {g:zf}{v e k n:Int}{u:Nat}
theorem ni.start:ni g v e u 0 (-1):=⟨.inl rfl,λs hs hc=>by have:=hc.1;omega⟩
theorem ni.take(_h:ni g v e u k n)(hc:oE g v e u k):ni g v e u (k+1) k:=⟨.inr ⟨by omega,hc⟩,λs hs _=>by omega⟩
theorem ni.skip(h:ni g v e u k n)(C:¬oE g v e u k):ni g v e u (k+1) n:=by
 refine⟨h.1.imp id λ⟨h1,h2⟩=>⟨by omega,h2⟩,λs D A=>?_⟩
 by_cases B:s=k
 ·subst B;exact absurd A C
 exact h.2 s (by omega) A
theorem ni.low(h:ni g v e u k n):-1<=n:=by
 rcases h.1 with h|⟨_,h⟩
 ·omega
 have:=h.1;omega
theorem ni.late(h:ni g v e u (e+1) n)(D:zx g){l:List Int}(G:vO g v e l)(I:0<=v/\v<g.lives.length)(F:e<=100)(B:zn g v e=true)(H:u<g.lives.length):gi l u=n:=by
 obtain⟨A,J⟩:=G.is D I F B H;refine Int.le_antisymm ?_ ?_
 ·rcases A with A|A
  ·have:=h.low;omega
  refine h.2 _ ?_ A;obtain⟨K,L,M,a,E,N⟩:=A;have:=E.low D (by omega) (k:=v.toNat) (by omega);omega
 rcases h.1 with C|⟨_,C⟩
 ·rcases A with A|⟨A,_⟩
  ·omega
  omega
 exact J n C
def oF(g:zf)(v e:Int)(k:Nat)(l:List Int):Prop:=l.length=k/\∀u,u<k->if zn g v e=true then ni g v e u (e+1) (gi l u) else gi l u=-1
theorem oF.nil:oF g v e 0 []:=⟨rfl,λu hu=>by omega⟩
theorem oF.snoc{l:List Int}{k:Nat}(h:oF g v e k l)(C:if zn g v e=true then ni g v e k (e+1) n else n=-1):oF g v e (k+1) (l++[n]):=by
 refine⟨by simp[h.1],λu D=>?_⟩
 by_cases B:u=k
 ·subst B
  rw[vE (l:=l++[n]) (v:=u) (x:=n) (by rw[List.getElem?_append_right (by rw[h.1];exact Ay _),h.1];simp)];exact C
 have A:u<l.length:=by rw[h.1];omega
 rw[vE (l:=l++[n]) (v:=u) (x:=gi l u) (by rw[List.getElem?_append_left A];exact ou A)];exact h.2 u (by omega)
theorem oF.late{l r:List Int}(h:oF g v e g.lives.length l)(E:zx g)(D:vO g v e r)(H:0<=v/\v<g.lives.length)(F:e<=100):r=l:=by
 refine wN (D.1.trans h.1.symm) λu G=>?_;have B:u<g.lives.length:=by rw[<-D.1];exact G
 have C:=h.2 u B
 by_cases A:zn g v e=true
 ·rw[Aq A]at C
  exact C.late E D H F A B
 rw[Au A]at C;rw[C];exact D.dead E (by simpa using A) B
end
def OV(g:zf)(h:yy):Int:=match g.edges[h.edge.toNat]? with
 |some x=>x.b
 |none=>0
theorem Oo{g:zf}{h:yy}{x:zA}(e:g.edges[h.edge.toNat]?=some x):OV g h=x.b:=by unfold OV;rw[e]
structure ez(g:zf)(l:List Int)(to:Int)(k:Nat)(acc:List yy):Prop where
 lt:k<g.lives.length
 fin:gi l k<zq
 go:∃c,fY g k (gi l k) 0 acc.reverse=some (to,gi l to.toNat,c)
 len:(acc.length:Int)+gi l k<=gi l to.toNat
 once:((k:Int)::acc.reverse.map (OV g)).Pairwise (λa b=>gi l a.toNat<gi l b.toNat)
 small:∀h,h∈acc->0<=h.edge/\h.edge<=30/\0<=h.depart/\h.depart<=100
 tight:∀h,h∈acc->∃x lg,g.edges[h.edge.toNat]?=some x/\zF g x h.depart=some (lg,gi l x.b.toNat)
section
variable {g:zf}{v t to:Int}{l:List Int}{hs acc:List yy}{k:Nat}
theorem ez.start(h0:0<=to)(h1:to<g.lives.length)(hf:gi l to.toNat<zq):ez g l to to.toNat []:=
 ⟨by omega,hf,⟨0,by simp[fY];omega⟩,by simp,by simp,by simp,by simp⟩
theorem ez.step(J:zx g)(h:ez g l to k acc)(I:sZ g v t l hs λ_=>true)(M:¬(k:Int)=v) :
  ∃x h F,hs[k]?=some h/\g.edges[h.edge.toNat]?=some x/\x.b=(k:Int)/\zF g x h.depart=some (F,gi l k)/\gi l x.a.toNat<gi l k/\ez g l to x.a.toNat (acc++[h]):=by
 rcases I.come k h.lt h.fin with⟨C,_⟩|⟨x,y,F,C,B,D,_,K,E⟩
 ·exact absurd C M
 have N:=I.small y (Ad C);have H:=J.edges x (Ad B);have a0:=H.a0;have a1:=H.a1;have G:=zT J H E;refine⟨x,y,F,C,B,D,E,by omega,by omega,by simp only[zq];omega,?_,by rw[Ag,List.length_singleton];have:=h.len;omega,?_,λz A=>?_,λz A=>?_⟩
 ·obtain⟨c,L⟩:=h.go
  rw[List.reverse_append,List.reverse_singleton,List.singleton_append];rw[oQ (Ql (v:=((x.a.toNat:Nat):Int)) (by omega) B (by omega) K E),D,eV,L];exact⟨_,rfl⟩
 ·rw[List.reverse_append,List.reverse_singleton,List.singleton_append,List.map_cons,Oo B,D]
  refine List.pairwise_cons.2 ⟨λz A=>?_,h.once⟩;have O:gi l x.a.toNat<gi l k:=by omega
  rcases List.mem_cons.1 A with rfl|A
  ·simp only[Int.toNat_natCast];exact O
  have:=(List.pairwise_cons.1 h.once).1 z A;simp only[Int.toNat_natCast]at this⊢;omega
 ·rcases AK.1 A with A|A
  ·exact h.small z A
  obtain rfl:z=y:=by simpa using A
  exact N
 rcases AK.1 A with A|A
 ·exact h.tight z A
 obtain rfl:z=y:=by simpa using A
 exact⟨x,F,B,by rw[D];simpa using E⟩
end
