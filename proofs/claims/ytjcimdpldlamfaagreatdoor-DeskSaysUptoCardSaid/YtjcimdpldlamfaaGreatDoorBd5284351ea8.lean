import Derived.Test.YtjcimdpldlamfaaGreatDoorBd8c4a73781a
import Derived.Test.YtjcimdpldlamfaaGreatDoorBdb9c3021434
namespace Go.Proofs.YtjcimdpldlamfaaGreatDoor
set_option maxRecDepth 100000
set_option maxHeartbeats 8000000
open Go.RowKit
def Rx(g:zf)(v u:Int)(w:World)(e:Ending)(w':World):Prop:=∃d a er,Hid (xX g v u d a er)/\e=.returned (.tuple #[.int .i64 d,.int .i64 a,.int .i64 er])/\Below w.heap.size w w'
theorem ct(A N:Option Addr)(c Q:Nat)(g:zf)(v u:Int)(w:World)(z:zv w A c N Q g)(h0:zz g=0)(hv:0<=v/\v<g.lives.length)(hu:0<=u/\u<g.lives.length) :
  Calls Tryz.prog 87 #[gV A c N Q g,.int .i64 v,.int .i64 u] w (Rx g v u w):=by
 have n:=zc h0;have R:=uX h0;obtain⟨H,I⟩:=hv;obtain⟨L,M⟩:=hu;have C0:=R.h0;have D0:=R.h1;have q:=R.nl;have m1:g.lives.length<=9223372036854775807:=by omega
 clear h0
 go_enter Tryz.func87,Tryz.ntmps87
 go_wp2_with fail;have E:zj (w.alloc (Obj.cells (gC A c N Q g) 68)) w.heap.size 68 (gC A c N Q g):=zj.new _ _ _;have B:Below w.heap.size w (w.alloc (Obj.cells (gC A c N Q g) 68)):=by go_grown
 go_loopw [9,10,11] (λxb xa x wr=>∃(k:Nat) (b a:Int),k<=100/\(k:Int)<=g.h/\xb=.int .i64 b/\xa=.int .i64 a/\x=.int .i64 k/\Hid (sa g v u k b a)/\zj wr w.heap.size 68 (gC A c N Q g)/\Below w.heap.size w wr)
  (λ_ _ x _=>(100-intOf x).toNat)
 case atStart=>exact⟨0,1099511627776,0,by omega,by omega,rfl,rfl,rfl,zc sa.start,E,B⟩
 clear E B;obtain⟨k,b,a,hk,E0,rfl,rfl,rfl,S,E,B⟩:=hrel;obtain⟨s,t,y⟩:=E.facts
 by_cases W:(k:Int)<g.h
 case neg=>
  have F:(k:Int)=g.h:=by omega
  rcases S.out with⟨C,ha,K⟩|C
  ·rw[F]at K
   have P:=zc (xX.none n.out ⟨H,I⟩ ⟨L,M⟩ K);subst ha;have d:(b== 1099511627776)=true:=by rw[C];rfl
   clear C K F;go_wp2_with fail;refine AP (uS rfl _ _ _) rfl ?_;exact⟨0,0,4,P,rfl,B⟩
  rw[F]at C;have P:=zc (xX.some n.out ⟨H,I⟩ ⟨L,M⟩ C);have d:(b== 1099511627776)=false:=by have:=C.b1;simp;omega
  clear C F;go_wp2_with fail;refine AP (uS rfl _ _ _) rfl ?_;exact⟨b,a,0,P,rfl,B⟩
 have r:Hid (zm g v k=0):=zc (cd R H I (by omega) W);have f:0<=b/\b<=1099511627776:=by
  rcases S.out with⟨C,_,_⟩|C
  ·simp only[zq]at C;omega
  have:=C.b0;have:=C.b1;omega
 obtain⟨o,p⟩:=f;go_wp2_with fail;refine(qd _ _ _ _ g v k _ (z.ext B) r.out).mono ?_;rintro e w2 ⟨l,A1,d1,O,rfl,Z,F0,J⟩;have i:=O.out.1;rw[i];have P:=zc i;have E:=E.ext J;have B:=za B J;clear i J s t y;obtain⟨b1,o1,rfl,L0,U⟩:=Z.cells (by rw[P.out];omega);have ku:=U u.toNat (by rw[P.out];omega);clear U;obtain⟨x,X⟩:∃x,gi l u.toNat=x:=⟨_,rfl⟩
 have J0:(k:Int)<=x:=by rw[<-X];exact O.out.low R (by omega) (by omega)
 have K0:x<=1099511627776:=by rw[<-X];exact O.out.big (by omega) _
 rw[X]at ku;have Y:=zc X;clear X;have j:IntKind.i64.wrap (x-k)=x-k:=AQ _ (by omega)
 by_cases D:x<1099511627776
 case neg=>
  have m:decide (x<1099511627776)=false:=by simpa using D
  have T:=zc (S.out.skip ⟨by omega,by omega⟩ O.out (by rw[Y.out];simp only[zq];omega));clear D;go_wp2_with fail;go_roundw
  case rel=>exact⟨k+1,b,a,by omega,by omega,rfl,rfl,by go_num,T,E,B⟩
  case measure=>simp[intOf];omega
 have m:decide (x<1099511627776)=true:=by simpa using D
 by_cases G:x-k<b
 case pos=>
  have V:decide (x-k<b)=true:=by simpa using G
  have T:=zc (S.out.take R ⟨by omega,W⟩ ⟨H,I⟩ ⟨L,M⟩ O.out Y.out D G);go_wp2_with fail;go_roundw
  case rel=>exact⟨k+1,x-k,k,by omega,by omega,rfl,rfl,by go_num,T,E,B⟩
  case measure=>simp[intOf];omega
 have V:decide (x-k<b)=false:=by simpa using G
 have T:=zc (S.out.stay ⟨by omega,by omega⟩ O.out Y.out D G);go_wp2_with fail;go_roundw
 case rel=>exact⟨k+1,b,a,by omega,by omega,rfl,rfl,by go_num,T,E,B⟩
 case measure=>simp[intOf];omega
open Go.RowKit Go.Shelf
theorem br(A A':Option Addr)(c c':Nat)(g:zf)(w:World)(hG:zv w A c A' c' g)(hV:zx g)(ht:ITab w) :
  Calls Tryz.prog 79 #[gV A c A' c' g] w λe J=>e=.returned (.string (bs (sN g)))/\Below w.heap.size w J:=by
 have z:=zc hV;have u:=zc (rQ hV);have L1:=hV.nl;have K1:=hV.ne;have m1:g.lives.length<=9223372036854775807:=Ai hG.lc hG.cm;have m2:g.edges.length<=9223372036854775807:=Ai hG.lc' hG.cm';have B:=ze (ze (Ae _ w) (Obj.cells (gC A c A' c' g) 68)) (Obj.cells #[.int .i64 g.h] 3);have F:zI ((w.alloc (Obj.cells (gC A c A' c' g) 68)).alloc (Obj.cells #[.int .i64 g.h] 3)) (some ⟨w.heap.size+1,0,none⟩) 1 [g.h]:=vR (zj.new_ (by simp)) rfl rfl (by decide) (by simpa using u.out.1)
 have T:=(zj.new w 68 (gC A c A' c' g)).alloc (Obj.cells #[.int .i64 g.h] 3);have L0:=zc B;have f0:=zc F;have c0:=zc T;have N0:=zc ht;clear B F T ht
 go_enter Tryz.func79,Tryz.ntmps79
 go_wp2_with fail;refine(iA yz _ 1 [g.h] _ f0.out (by decide) (by simp) (N0.out.ext L0.out)).mono ?_;rintro e w1 ⟨rfl,C0⟩;have d:=c0.out.ext C0;have D0:=za L0.out C0;have Q0:=hG.ext D0;have y:=zc (N0.out.ext D0);have G1:w.heap.size<w1.heap.size:=d.lt;clear C0 hG;go_wp2_with fail
 go_loopw [3,4] (λs kk wr=>∃k:Nat,k<=g.lives.length/\kk=.int .i64 k/\s=.string (bs (yg yz [g.h]++(g.lives.take k).flatMap yj))/\Below w1.heap.size w1 wr) (λ_ kk _=>g.lives.length-(intOf kk).toNat)
 case atStart=>exact⟨0,AA _,rfl,by simp,Ae _ _⟩
 obtain⟨k,hk,rfl,rfl,C⟩:=hrel;have T:=d.ext C;obtain⟨d1,d2,d3⟩:=T.facts;have R:=jS z.out k 0
 by_cases m0:k<g.lives.length
 case pos=>
  obtain⟨x,m⟩:=zl m0;obtain⟨Q,Z,hE⟩:=Q0.lives;obtain⟨rfl,P,⟨⟨x0,x1⟩,_⟩⟩:=hE k x m;have o:=x0.now C;have q:=x1.now C;have P:Q<wr.heap.size:=AV P C.size;have E0:=u.out.2.1 x (Ad m);have U:Hid (yg yz [g.h]++(g.lives.take (k+1)).flatMap yj=yg yz [g.h]++(g.lives.take k).flatMap yj++yj x):=zc (by rw[qz m,List.append_assoc])
  have n0:=lq E0;unfold yj at n0;obtain⟨E,H⟩:∃E,yg yz [g.h]++(g.lives.take k).flatMap yj=E:=⟨_,rfl⟩;rw[H]at U⊢;rw[H,List.take_zero,List.flatMap_nil,AR]at R;have h0:=zc E0;clear hE m x0 x1 H E0;go_wp2_with fail;obtain⟨S,N⟩:∃S:World->Prop,Hid (S=λJ=>J.cell? ⟨w.heap.size,1,none⟩=some (.slice (some ⟨Q,Z,none⟩) g.lives.length c)/\J.cell? ⟨Q,Z+k*2,none⟩=some (.int .i64 x.f)/\J.cell? ⟨Q,Z+k*2+1,none⟩=some (.int .i64 x.t)):=⟨_,zc rfl⟩
  have I:Hid (∀J,Below wr.heap.size wr J->S J):=zc λJ O=>by rw[N.out];exact⟨(T.ext O).cell 1,(O.cell (p:=⟨Q,Z+k*2,none⟩) P).trans o,(O.cell (p:=⟨Q,Z+k*2+1,none⟩) P).trans q⟩
  have B0:S wr.drew:=I.out _ (zi (Ae _ wr));refine zV.begin (S:=S) 16 (by kernel_rfl) ?_;refine tN 0 ?_ ?_<|tN 1 ?_ ?_<|tN 2 ?_ ?_<|tN 3 ?_ ?_<|tN 4 ?_ ?_<|tN 5 ?_ ?_<|tN 6 ?_ ?_<|tN 7 ?_ ?_<|tN 8 ?_ ?_<|tN 9 ?_ ?_<|tN 10 ?_ ?_<|tN 11 ?_ ?_<|tN 12 ?_ ?_ ?_
  iterate 13
   rotate_left;intro w W;rw[N.out]at W;obtain⟨r0,s0,t0⟩:=W;(try simp only[pS]);go_simp;try with_reducible rfl
  try simp only[pS]
  refine zV.one (i:=13) rfl (by kernel_rfl) λK G=>?_;go_wp2_with fail;have B:Below wr.heap.size wr (wr.alloc (Obj.cells #[.int .i64 x.f,.int .i64 x.t] 3)).drew:=zi (ze (Ae _ wr) _);have V:=I.out _ B;have F:zI (wr.alloc (Obj.cells #[.int .i64 x.f,.int .i64 x.t] 3)).drew (some ⟨wr.heap.size,0,none⟩) 2 [x.f,x.t]:=vR (zj.new wr _ _).drew rfl rfl (by decide) (by simpa using h0.out)
  refine G.out _ _ ⟨λ_=>V,?_⟩;clear G K;refine zV.one (i:=14) rfl (by kernel_rfl) λK G=>?_;go_wp2_with fail;refine(iA xV _ 2 [x.f,x.t] _ F (by decide) (by simp) ((y.out.ext C).ext B)).mono ?_;rintro e w2 ⟨rfl,Y⟩;have B:=za B Y;have M:=I.out _ B;go_wp2_with fail;refine G.out _ _ ⟨λ_=>M,?_⟩;clear G K;refine zV.one (i:=15) rfl (by kernel_rfl) λK G=>?_
  go_wp2_with fail;refine G.out _ _ ⟨λ_=>M,?_⟩;clear G K;refine zV.one (i:=16) rfl (by kernel_rfl) λK G=>?_;go_wp2_with fail;refine G.out _ _ ⟨λh=>absurd h (by decide),?_⟩;refine zV.done (by kernel_rfl) ?_ _;clear G K N B0 V M F Y I;go_wp2_with fail;go_roundw
  case rel=>exact⟨k+1,by omega,by go_num,by rw[U.out];rfl,za C B⟩
  case measure=>simp[intOf];omega
 have d0:Hid (yg yz [g.h]++(g.lives.take k).flatMap yj=yg yz [g.h]++g.lives.flatMap yj++(g.edges.take 0).flatMap sL):=zc (by rw[AJ (by omega)];simp);rw[d0.out];clear R;go_wp2_with fail
 go_loopw [3,5] (λs jj wr=>∃j:Nat,j<=g.edges.length/\jj=.int .i64 j/\s=.string (bs (yg yz [g.h]++g.lives.flatMap yj++(g.edges.take j).flatMap sL))/\Below w1.heap.size w1 wr) (λ_ jj _=>g.edges.length-(intOf jj).toNat)
 case atStart=>exact⟨0,AA _,rfl,rfl,C⟩
 clear C T d1 d2 d3;obtain⟨j,hj,rfl,rfl,C⟩:=hrel;have T:=d.ext C;obtain⟨d1,d2,d3⟩:=T.facts;have R:=jS z.out g.lives.length j;rw[AL]at R
 by_cases V0:j<g.edges.length
 case neg=>
  have HE:Hid (yg yz [g.h]++g.lives.flatMap yj++(g.edges.take j).flatMap sL=sN g):=zc (by rw[AJ (by omega)];rfl);rw[HE.out];clear R;go_wp2_with fail;refine AP (v:=.string (bs (sN g))) (by simp[results,Tryz.results79]) rfl ?_;exact⟨rfl,za D0 C⟩
 obtain⟨x,m⟩:=zl V0;have F0:=Ad m;obtain⟨Q,Z,hE⟩:=Q0.edges;obtain⟨rfl,S0,⟨⟨x0,x1,L,cl,x2,I1,J1,hL⟩,_⟩⟩:=hE j x m;have o:=x0.now C;have q:=x1.now C;have X2:=zc x2;have P:Q<wr.heap.size:=AV S0 C.size;have n:=u.out.2.2 x F0;have h6:=n.2.1;have F1:=lI n.1;have g0:=zc (λi=>XG z.out F0 i);have O0:=zc n;have U:Hid (yg yz [g.h]++g.lives.flatMap yj++(g.edges.take (j+1)).flatMap sL=yg yz [g.h]++g.lives.flatMap yj++(g.edges.take j).flatMap sL++(yg xt [x.a,x.b]++(x.legs.take x.legs.length).flatMap qS)):=zc (by rw[qz m,AL,<-List.append_assoc];rfl)
 obtain⟨E,H⟩:∃E,yg yz [g.h]++g.lives.flatMap yj++(g.edges.take j).flatMap sL=E:=⟨_,rfl⟩;rw[H]at U R⊢;clear hE m x0 x1 H F0 n;go_wp2_with fail;obtain⟨S,N⟩:∃S:World->Prop,Hid (S=λJ=>J.cell? ⟨w.heap.size,2,none⟩=some (.slice (some ⟨Q,Z,none⟩) g.edges.length c')/\J.cell? ⟨Q,Z+j*3,none⟩=some (.int .i64 x.a)/\J.cell? ⟨Q,Z+j*3+1,none⟩=some (.int .i64 x.b)):=⟨_,zc rfl⟩
 have I:Hid (∀J,Below wr.heap.size wr J->S J):=zc λJ O=>by rw[N.out];exact⟨(T.ext O).cell 2,(O.cell (p:=⟨Q,Z+j*3,none⟩) P).trans o,(O.cell (p:=⟨Q,Z+j*3+1,none⟩) P).trans q⟩
 have B0:S wr.drew:=I.out _ (zi (Ae _ wr));refine zV.begin (S:=S) 16 (by kernel_rfl) ?_;refine tN 0 ?_ ?_<|tN 1 ?_ ?_<|tN 2 ?_ ?_<|tN 3 ?_ ?_<|tN 4 ?_ ?_<|tN 5 ?_ ?_<|tN 6 ?_ ?_<|tN 7 ?_ ?_<|tN 8 ?_ ?_<|tN 9 ?_ ?_<|tN 10 ?_ ?_<|tN 11 ?_ ?_<|tN 12 ?_ ?_ ?_
 iterate 13
  rotate_left;intro w W;rw[N.out]at W;obtain⟨r0,s0,t0⟩:=W;(try simp only[pS]);go_simp;try with_reducible rfl
 try simp only[pS]
 refine zV.one (i:=13) rfl (by kernel_rfl) λK G=>?_;go_wp2_with fail;have B:Below wr.heap.size wr (wr.alloc (Obj.cells #[.int .i64 x.a,.int .i64 x.b] 3)).drew:=zi (ze (Ae _ wr) _);have V:=I.out _ B;have F:zI (wr.alloc (Obj.cells #[.int .i64 x.a,.int .i64 x.b] 3)).drew (some ⟨wr.heap.size,0,none⟩) 2 [x.a,x.b]:=vR (zj.new wr _ _).drew rfl rfl (by decide) (by simpa using O0.out.1)
 refine G.out _ _ ⟨λ_=>V,?_⟩;clear G K;refine zV.one (i:=14) rfl (by kernel_rfl) λK G=>?_;go_wp2_with fail;refine(iA xt _ 2 [x.a,x.b] _ F (by decide) (by simp) ((y.out.ext C).ext B)).mono ?_;rintro e w2 ⟨rfl,Y⟩;have B:=za B Y;have M:=I.out _ B;go_wp2_with fail;refine G.out _ _ ⟨λ_=>M,?_⟩;clear G K;refine zV.one (i:=15) rfl (by kernel_rfl) λK G=>?_
 go_wp2_with fail;refine G.out _ _ ⟨λ_=>M,?_⟩;clear G K;refine zV.one (i:=16) rfl (by kernel_rfl) λK G=>?_;go_wp2_with fail;refine G.out _ _ ⟨λh=>absurd h (by decide),?_⟩;refine zV.done (by kernel_rfl) ?_ _;clear G K N B0 V M F Y I;go_wp2_with fail;have C:=za C B;clear B o q T d1 d2 d3;have e0:Hid (E++yg xt [x.a,x.b]=E++(yg xt [x.a,x.b]++(x.legs.take 0).flatMap qS)):=zc (by simp)
 go_loopw [3,6] (λs ii wr=>∃i:Nat,i<=x.legs.length/\ii=.int .i64 i/\s=.string (bs (E++(yg xt [x.a,x.b]++(x.legs.take i).flatMap qS)))/\Below w1.heap.size w1 wr) (λ_ ii _=>x.legs.length-(intOf ii).toNat)
 case atStart=>exact⟨0,AA _,rfl,by rw[<-e0.out];rfl,C⟩
 clear C;obtain⟨i,H1,rfl,rfl,C⟩:=hrel;have T:=d.ext C;obtain⟨d1,d2,d3⟩:=T.facts;have T1:=X2.out.now C;have R0:=g0.out i
 by_cases U0:i<x.legs.length
 case neg=>
  obtain rfl:i=x.legs.length:=by omega
  go_wp2_with fail;go_roundw
  case rel=>exact⟨j+1,by omega,by go_num,by rw[U.out],C⟩
  case measure=>simp[intOf];omega
 case pos=>
 obtain⟨D,l⟩:=zl U0;obtain⟨bl,ol,i0⟩:=hL;obtain⟨rfl,v0,⟨⟨l0,l1,l2,l3⟩,_⟩⟩:=i0 i D l;have M1:=l0.now C;have N1:=l1.now C;have O1:=l2.now C;have P1:=l3.now C;have T0:=O0.out.2.2 D (Ad l);have k0:=ik T0;unfold qS at k0;have M0:Hid (E++(yg xt [x.a,x.b]++(x.legs.take (i+1)).flatMap qS)=E++(yg xt [x.a,x.b]++(x.legs.take i).flatMap qS)++qS D):=zc (by rw[qz l];simp only[List.append_assoc])
 obtain⟨A0,X⟩:∃A0,E++(yg xt [x.a,x.b]++(x.legs.take i).flatMap qS)=A0:=⟨_,rfl⟩;have u0:A0.length<=40000:=by rw[<-X,Ag];omega
 rw[X]at M0⊢;clear l l0 l1 l2 l3 X R0;obtain⟨H0,rfl⟩:∃wo:World,wo=wr:=⟨_,rfl⟩;go_wp2_with fail;have B:=ze (ze (Ae _ H0) (Obj.cells #[.int .i64 D.f,.int .i64 D.t,.int .i64 D.time,.int .i64 D.cost] 100)) (Obj.cells #[.int .i64 D.f,.int .i64 D.t,.int .i64 D.time,.int .i64 D.cost] 3);have F:zI ((H0.alloc (Obj.cells #[.int .i64 D.f,.int .i64 D.t,.int .i64 D.time,.int .i64 D.cost] 100)).alloc (Obj.cells #[.int .i64 D.f,.int .i64 D.t,.int .i64 D.time,.int .i64 D.cost] 3)) (some ⟨H0.heap.size+1,0,none⟩) 4 [D.f,D.t,D.time,D.cost]:=vR (zj.new_ (by simp)) rfl rfl (by decide) (by simpa using T0)
 refine(iA qf _ 4 [D.f,D.t,D.time,D.cost] _ F (by decide) (by simp) ((y.out.ext C).ext B)).mono ?_;rintro e w4 ⟨rfl,r⟩;have j0:=za C (za B r);clear F r;go_wp2_with fail;go_roundw
 case rel=>exact⟨i+1,by omega,by go_num,by rw[M0.out];rfl,j0⟩
 case measure=>simp[intOf];omega
theorem Wd(A I An:Option Addr)(c J cn:Nat)(g:zf)(n:List Int)(V4:Value)(w:World)(r:zv w A c I J g)(hV:zx g)(hN:zI w An cn n)(f:n.length=2)(R:∀x,x∈n->0<=x)(ht:ITab w) :
  Calls Tryz.prog 40 #[gV A c I J g,.string ⟨#[102,97,115,116]⟩,.slice An n.length cn,V4] w λe H=>e=.returned (.string (bs (sG g n)))/\Below w.heap.size w H:=by
 obtain⟨x,y,rfl⟩:=vI f;obtain⟨b,o,rfl,Y,x0,x1⟩:=hN.two;have HG:=zc r;have z:=zc ht;have q:=zc hV;have V:Hid (0<=x/\0<=y):=zc ⟨R x (by simp),R y (by simp)⟩;have HI:Hid (∀k,k∈[x,y]->zM k):=zc hN.i64;have m1:g.lives.length<=9223372036854775807:=Ai r.lc r.cm;clear r ht hV hN f R
 go_enter Tryz.func40,Tryz.ntmps40
 go_wp2_with fail;have m:=zj.new w 68 (gC A c I J g);have M:=ze (Ae w.heap.size w) (Obj.cells (gC A c I J g) 68);change Code.wp _ _ _ _ (w.alloc (Obj.cells (gC A c I J g) 68));obtain⟨B,hq⟩:∃B,w.alloc (Obj.cells (gC A c I J g) 68)=B:=⟨_,rfl⟩;rw[hq]at m M⊢;obtain⟨W,L⟩:∃W:World->Prop,Hid (W=λH=>H.cell? ⟨w.heap.size,0,none⟩=some (.int .i64 g.h)/\H.cell? ⟨w.heap.size,1,none⟩=some (.slice A g.lives.length c)/\H.cell? ⟨w.heap.size,2,none⟩=some (.slice I g.edges.length J)/\H.cell? ⟨b,o,none⟩=some (.int .i64 x)/\H.cell? ⟨b,o+1,none⟩=some (.int .i64 y)):=⟨_,zc rfl⟩
 have HX:Hid (w.cell? ⟨b,o,none⟩=some (.int .i64 x)/\w.cell? ⟨b,o+1,none⟩=some (.int .i64 y)):=zc ⟨x0,x1⟩;have P:Hid (∀H,Below B.heap.size B H->W H):=zc λH h=>by
  have hB:=m.ext h;have hw:=za M h;rw[L.out];exact⟨hB.cell 0,hB.cell 1,hB.cell 2,(hw.cell (p:=⟨b,o,none⟩) Y).trans HX.out.1,(hw.cell (p:=⟨b,o+1,none⟩) Y).trans HX.out.2⟩
 have C:=zc M;have e0:=zc m;have D:Below B.heap.size B B:=Ae _ _;clear x0 x1 m M hq;obtain⟨c0,c1,c2,c3,c4⟩:B.cell? ⟨w.heap.size,0,none⟩=some (.int .i64 g.h)/\B.cell? ⟨w.heap.size,1,none⟩=some (.slice A g.lives.length c)/\B.cell? ⟨w.heap.size,2,none⟩=some (.slice I g.edges.length J)/\B.cell? ⟨b,o,none⟩=some (.int .i64 x)/\B.cell? ⟨b,o+1,none⟩=some (.int .i64 y):=by
  have h9:=P.out B D;rw[L.out]at h9;exact h9
 by_cases l:x<g.lives.length
 case neg=>
  have Z:decide (x ≥ (g.lives.length:Int))=true:=by simp;omega
  have T:Hid (sG g [x,y]=yO 4):=zc (by
   have X:=jQ (xX.out (v:=x) (u:=y) (xK q.out) (λh=>l h.1.2));show yb [(qk g x y).1,(qk g x y).2.1] (qk g x y).2.2=_;rw[X];rfl)
  have HW:=zc (λN=>zP 4 (zt (by decide) (by decide)) (B.drewN N) (z.out.ext (za C.out (zo D N))));clear l
  go_quiet (fail)
  go_wp2_with fail;refine(HW.out _).mono ?_;rintro e w4 ⟨rfl,Q⟩;go_wp2_with fail;go_ret;exact⟨by rw[T.out];rfl,za C.out (za (zo D nq) Q)⟩
 by_cases s:y<g.lives.length
 case neg=>
  have Z:decide (x ≥ (g.lives.length:Int))=false:=by simp;omega
  have G:decide (y ≥ (g.lives.length:Int))=true:=by simp;omega
  have T:Hid (sG g [x,y]=yO 4):=zc (by
   have X:=jQ (xX.out (v:=x) (u:=y) (xK q.out) (λh=>s h.2.2));show yb [(qk g x y).1,(qk g x y).2.1] (qk g x y).2.2=_;rw[X];rfl)
  have HW:=zc (λN=>zP 4 (zt (by decide) (by decide)) (B.drewN N) (z.out.ext (za C.out (zo D N))));clear l s
  go_quiet (fail)
  go_wp2_with fail;refine(HW.out _).mono ?_;rintro e w4 ⟨rfl,Q⟩;go_wp2_with fail;go_ret;exact⟨by rw[T.out];rfl,za C.out (za (zo D nq) Q)⟩
 have Z:decide (x ≥ (g.lives.length:Int))=false:=by simp;omega
 have G:decide (y ≥ (g.lives.length:Int))=false:=by simp;omega
 have U:Hid (x<g.lives.length/\y<g.lives.length):=zc ⟨l,s⟩;clear l s
 go_quiet (fail)
 clear c0 c1 c2 c3 c4;go_wp2_with fail;obtain⟨wr,S⟩:∃wr,B.drewN nq=wr:=⟨_,rfl⟩;have K0:Below B.heap.size B wr:=by rw[<-S];exact zo D nq
 rw[S];clear S;have G:=zi K0;have G0:W wr.drew:=P.out _ G;refine zB W (by kernel_rfl) ?_;refine tH 0 ?_ ?_<|tH 1 ?_ ?_<|tH 2 ?_ ?_<|tH 3 ?_ ?_<|tH 4 ?_ ?_<|tH 5 ?_ ?_<|tH 6 ?_ ?_ ?_
 iterate 7
  rotate_left;intro w E;rw[L.out]at E;obtain⟨L0,M0,N0,O0,P0⟩:=E;(try simp only[pS]);go_simp;try with_reducible rfl
 try simp only[pS]
 refine zu (i:=7) rfl (by kernel_rfl) λK hK=>?_;go_wp2_with fail;refine(ct A I c J g x y _ (HG.out.ext (za C.out G)) (xK q.out) ⟨V.out.1,U.out.1⟩ ⟨V.out.2,U.out.2⟩).mono ?_;rintro e t ⟨d,a,er,HF,rfl,H0⟩;have F:Below B.heap.size B t:=za G H0;have O:=P.out _ F;have T:Hid ((∀n,n∈[d,a]->zM n)/\zM er):=zc (by have h:=eQ q.out HF.out;exact⟨λn f=>by simp at f;rcases f with rfl|rfl <;> first|exact h.1|exact h.2.1,h.2.2⟩)
 refine hK.out _ _ ⟨O,?_⟩;clear hK K G0
 try simp only[pS]
 refine tH 8 ?_ ?_<|tH 9 ?_ ?_<|tH 10 ?_ ?_<|tH 11 ?_ ?_<|tH 12 ?_ ?_<|tH 13 ?_ ?_<|tH 14 ?_ ?_ ?_
 iterate 7
  rotate_left;intro w E;rw[L.out]at E;obtain⟨L0,M0,N0,O0,P0⟩:=E;(try simp only[pS]);go_simp;try with_reducible rfl
 try simp only[pS]
 refine wpAnyH_done (by kernel_rfl) ?_ _
 try simp only[pS]
 clear O;have B0:=zc (z.out.ext (za C.out F));have BI:=zj.new t 3 #[.int .i64 d,.int .i64 a];have j:=vm (some ⟨t.heap.size,0,none⟩) 2 2 [d,a] er (t.alloc (Obj.cells #[.int .i64 d,.int .i64 a] 3)) (jX BI T.out.1 (by unfold maxLen;simp)) (by simp) T.out.2 (B0.out.ext (ze (Ae _ _) _));have A0:=zc j;have I0:=ze F (Obj.cells #[.int .i64 d,.int .i64 a] 3)
 clear BI j;go_wp2_with fail;refine A0.out.mono ?_;rintro e w9 ⟨rfl,J0⟩;go_wp2_with fail;go_ret;have hR:sG g [x,y]=yb [d,a] er:=by
  have X:=jQ HF.out;show yb [(qk g x y).1,(qk g x y).2.1] (qk g x y).2.2=_;rw[X]
 rw[hR];exact⟨rfl,za C.out (za I0 J0)⟩
theorem SP(A I An:Option Addr)(c J cn:Nat)(g:zf)(n:List Int)(j:Option Addr)(Z:Nat)(h:List yy)(w:World)(a:zv w A c I J g)(hV:zx g)(z:zI w An cn n)(S:n.length=2)(N:∀x,x∈n->0<=x)(ht:ITab w)(d:h.length<=Z/\Z<=maxLen/\zU mt 2 w j h) :
  Calls Tryz.prog 40 #[gV A c I J g,.string ⟨#[103,111]⟩,.slice An n.length cn,.slice j h.length Z] w λe D=>e=.returned (.string (bs (qi h g n)))/\Below w.heap.size w D:=by
 obtain⟨x,y,rfl⟩:=vI S;obtain⟨b,o,rfl,R,x0,x1⟩:=z.two;have HG:=zc a;have HT:=zc ht;have HV:=zc hV;have a0:Hid (0<=x/\0<=y):=zc ⟨N x (by simp),N y (by simp)⟩;have HI:Hid (∀k,k∈[x,y]->zM k):=zc z.i64;have m1:g.lives.length<=9223372036854775807:=Ai a.lc a.cm;have l:=zc d;have m4:h.length<=9223372036854775807:=Ai d.1 d.2.1;clear a ht hV z S N d
 go_enter Tryz.func40,Tryz.ntmps40
 go_wp2_with fail;have X:=zj.new w 68 (gC A c I J g);have H:=ze (Ae w.heap.size w) (Obj.cells (gC A c I J g) 68);change Code.wp _ _ _ _ (w.alloc (Obj.cells (gC A c I J g) 68));obtain⟨E,hq⟩:∃E,w.alloc (Obj.cells (gC A c I J g) 68)=E:=⟨_,rfl⟩;rw[hq]at X H⊢;obtain⟨Q,M⟩:∃Q:World->Prop,Hid (Q=λD=>D.cell? ⟨w.heap.size,0,none⟩=some (.int .i64 g.h)/\D.cell? ⟨w.heap.size,1,none⟩=some (.slice A g.lives.length c)/\D.cell? ⟨w.heap.size,2,none⟩=some (.slice I g.edges.length J)/\D.cell? ⟨b,o,none⟩=some (.int .i64 x)/\D.cell? ⟨b,o+1,none⟩=some (.int .i64 y)):=⟨_,zc rfl⟩
 have HX:Hid (w.cell? ⟨b,o,none⟩=some (.int .i64 x)/\w.cell? ⟨b,o+1,none⟩=some (.int .i64 y)):=zc ⟨x0,x1⟩;have P:Hid (∀D,Below E.heap.size E D->Q D):=zc λD h=>by
  have u:=X.ext h;have hw:=za H h;rw[M.out];exact⟨u.cell 0,u.cell 1,u.cell 2,(hw.cell (p:=⟨b,o,none⟩) R).trans HX.out.1,(hw.cell (p:=⟨b,o+1,none⟩) R).trans HX.out.2⟩
 have F:=zc H;have W0:=zc X;have E0:Below E.heap.size E E:=Ae _ _;clear x0 x1 X H hq;have G:=zi E0;have A0:Q E.drew:=P.out _ G;refine zB Q (by kernel_rfl) ?_;refine tH 0 ?_ ?_<|tH 1 ?_ ?_<|tH 2 ?_ ?_<|tH 3 ?_ ?_<|tH 4 ?_ ?_<|tH 5 ?_ ?_<|tH 6 ?_ ?_<|tH 7 ?_ ?_ ?_
 iterate 8
  rotate_left;intro w B;rw[M.out]at B;obtain⟨F0,G0,H0,I0,J0⟩:=B;(try simp only[pS]);go_simp;try with_reducible rfl
 try simp only[pS]
 refine zu (i:=8) rfl (by kernel_rfl) λK hK=>?_;go_wp2_with fail;refine(SQ A I j c J Z g x y h _ (HG.out.ext (za F.out G)) (l.out.2.2.ext mt.stable (za F.out G)) (Ai l.out.1 l.out.2.1)).mono ?_;rintro e f ⟨rfl,B0⟩;have C:Below E.heap.size E f:=za G B0;have L:=P.out _ C;have Y:Hid ((∀n,n∈[(pE g x y h).1,(pE g x y h).2.1,(pE g x y h).2.2.1]->zM n)/\zM (pE g x y h).2.2.2):=zc (by have k:=ao (v:=x) (t:=y) HV.out h;exact⟨λn S=>by simp at S;rcases S with rfl|rfl|rfl <;> first|exact k.1|exact k.2.1|exact k.2.2.1,k.2.2.2⟩)
 obtain⟨r0,O⟩:∃r,pE g x y h=r:=⟨_,rfl⟩;rw[O]at Y⊢;have m:=zc O;obtain⟨U,V,W,r4⟩:=r0;unfold Oy;simp only at Y⊢;clear O;refine hK.out _ _ ⟨L,?_⟩;clear hK K A0
 try simp only[pS]
 refine tH 9 ?_ ?_<|tH 10 ?_ ?_<|tH 11 ?_ ?_<|tH 12 ?_ ?_<|tH 13 ?_ ?_<|tH 14 ?_ ?_<|tH 15 ?_ ?_<|tH 16 ?_ ?_<|tH 17 ?_ ?_ ?_
 iterate 9
  rotate_left;intro w B;rw[M.out]at B;obtain⟨F0,G0,H0,I0,J0⟩:=B;(try simp only[pS]);go_simp;try with_reducible rfl
 try simp only[pS]
 refine wpAnyH_done (by kernel_rfl) ?_ _
 try simp only[pS]
 clear L;have s:=zc (HT.out.ext (za F.out C));have BI:=zj.new f 3 #[.int .i64 U,.int .i64 V,.int .i64 W];have T:=vm (some ⟨f.heap.size,0,none⟩) 3 3 [U,V,W] r4 (f.alloc (Obj.cells #[.int .i64 U,.int .i64 V,.int .i64 W] 3)) (jX BI Y.out.1 (by unfold maxLen;simp)) (by simp) Y.out.2 (s.out.ext (ze (Ae _ _) _));have q:=zc T;have C0:=ze C (Obj.cells #[.int .i64 U,.int .i64 V,.int .i64 W] 3)
 clear BI T;go_wp2_with fail;refine q.out.mono ?_;rintro e w9 ⟨rfl,D0⟩;go_wp2_with fail;go_ret;have hR:qi h g [x,y]=yb [U,V,W] r4:=by
  show yb [(pE g x y h).1,(pE g x y h).2.1,(pE g x y h).2.2.1] (pE g x y h).2.2.2=_;rw[m.out]
 rw[hR];exact⟨rfl,za F.out (za C0 D0)⟩
theorem Wg(A D K:Option Addr)(c E M:Nat)(g:zf)(n:List Int)(L:Value)(w:World)(N:zv w A c D E g)(F:zx g)(J:ITab w) :
  Calls Tryz.prog 40 #[gV A c D E g,.string ⟨#[115,104,111,119]⟩,.slice K n.length M,L] w λe P=>e=.returned (.string (bs (sH g n)))/\Below w.heap.size w P:=by
 have B:=ze (Ae w.heap.size w) (Obj.cells (gC A c D E g) 68);have H:=zc (br A D c E g _ (N.ext B) F (J.ext B));have I:Hid (sH g n=sN g++Uw):=zc (by unfold sH;rw[Aq (xK F)]);have O:=eZ F;obtain⟨t,C⟩:∃t,sN g=t:=⟨_,rfl⟩;rw[C]at H I O;clear C F J
 go_enter Tryz.func40,Tryz.ntmps40
 go_wp2_with fail;refine H.out.mono ?_;rintro e Q ⟨rfl,G⟩;go_wp2_with fail;go_ret;rw[I.out];exact⟨rfl,za B G⟩
set_option maxHeartbeats 4000000
theorem lZ(A C:Option Addr)(c D:Nat)(s:zH)(p v:Int)(w:World)(V:wY w A c C D s)(I:pZ s)(S:1<=p)(T:p<=3) :
  Calls Tryz.prog 84 #[sx A c C D s,.int .i64 p,.int .i64 v] w (bP s p (p== 3) v w):=by
 have H:=I.nv
 go_enter Tryz.func84,Tryz.ntmps84
 go_wp2_with fail;have K:=(zj.new w 86 (tn A c C D s)).alloc (Obj.cells #[.int .i64 p] 3);have L:zj ((w.alloc (Obj.cells (tn A c C D s) 86)).alloc (Obj.cells #[.int .i64 p] 3)) (w.heap.size+1) 3 #[.int .i64 p]:=zj.new_ (by simp);have E:Below w.heap.size w ((w.alloc (Obj.cells (tn A c C D s) 86)).alloc (Obj.cells #[.int .i64 p] 3)):=by go_grown
 obtain⟨F,J⟩:∃F:World,F=(w.alloc (Obj.cells (tn A c C D s) 86)).alloc (Obj.cells #[.int .i64 p] 3):=⟨_,rfl⟩;rw[<-J]at K L E⊢;clear J;obtain⟨a,b,d⟩:=K.facts;have M:F.cell? ⟨w.heap.size,0,none⟩=some (.slice A s.alive.length c)/\F.cell? ⟨w.heap.size,1,none⟩=some (.slice C s.arcs.length D)/\F.cell? ⟨w.heap.size+1,0,none⟩=some (.int .i64 p):=⟨by rw[K.cell];rfl,by rw[K.cell];rfl,by rw[L.cell];rfl⟩
 clear a b d
 go_region_held3 (λU=>U.cell? ⟨w.heap.size,0,none⟩=some (.slice A s.alive.length c)/\U.cell? ⟨w.heap.size,1,none⟩=some (.slice C s.arcs.length D)/\U.cell? ⟨w.heap.size+1,0,none⟩=some (.int .i64 p))
  (first|exact M|exact Og B M|exact Og G M)
  (first|(go_at_call 125;refine(Tt A C c D s p v _ (V.ext (by go_grown)) H).mono ?_;rintro e j ⟨X,f,rfl,h,P⟩;have B:Below F.heap.size F j:=za (by go_grown) P)|(go_at_call 124;refine(Ug A C X c D f s p v (p== 3) (w.heap.size+1) _ (V.ext (za E B)) I S T (L.ext B) h).mono ?_;rintro e k ⟨l,Y,g,i,rfl,W,N,R,Q,O⟩;have G:Below F.heap.size F k:=za B Q;have Z:=zc W;clear W))
 all_goals (try go_wp2_with fail)
 all_goals go_ret2
 all_goals exact⟨l,Y,g,i,rfl,Z.out,N,R,za E G,ui.lower O (Ai E.size B.size)⟩
theorem PV:mh 1=gS:=by funext a;simp[mh,gS]
theorem PW:mh 2=mq:=by funext a;simp[mh,mq]
theorem Rl:mh 3=nb:=by funext a;simp[mh,nb]
def ew(P:List Int->Prop)(w:World)(e:Ending)(w':World):Prop:=∃l A c k,P l/\e=.returned (.tuple #[.slice A l.length c,.int .i64 k])/\zU ra 1 w' A l/\l.length<=maxLen/\Below w.heap.size w w'
theorem Wi(A A':Option Addr)(c c':Nat)(s:zH)(v:Int)(w:World)(hS:wY w A c A' c' s)(hok:pZ s) :
  Calls Tryz.prog 84 #[sx A c A' c' s,.int .i64 1,.int .i64 v] w (ew (jx s gS v) w):=
 (lZ A A' c c' s 1 v w hS hok (by decide) (by decide)).mono λe w' ⟨l,A2,c2,k,he,hl,h1,h2,h3,_⟩=>
  ⟨l,A2,c2,k,⟨hl.1,by have:=hl.2;rw[PV,nA s (by decide)]at this;exact this⟩,he,h1,h2,h3⟩
theorem ZZ(A A':Option Addr)(c c':Nat)(s:zH)(v:Int)(w:World)(hS:wY w A c A' c' s)(hok:pZ s) :
  Calls Tryz.prog 84 #[sx A c A' c' s,.int .i64 2,.int .i64 v] w (ew (jx s mq v) w):=
 (lZ A A' c c' s 2 v w hS hok (by decide) (by decide)).mono λe w' ⟨l,A2,c2,k,he,hl,h1,h2,h3,_⟩=>
  ⟨l,A2,c2,k,⟨hl.1,by have:=hl.2;rw[PW,nA s (by decide)]at this;exact this⟩,he,h1,h2,h3⟩
theorem bF(A A':Option Addr)(c c':Nat)(s:zH)(v:Int)(w:World)(hS:wY w A c A' c' s)(hok:pZ s) :
  Calls Tryz.prog 84 #[sx A c A' c' s,.int .i64 3,.int .i64 v] w (ew (tR s) w):=
 (lZ A A' c c' s 3 v w hS hok (by decide) (by decide)).mono λe w' ⟨l,A2,c2,k,he,hl,h1,h2,h3,_⟩=>
  ⟨l,A2,c2,k,⟨hl.1,by have:=hl.2;rw[Rl,Zv]at this;exact this⟩,he,h1,h2,h3⟩
