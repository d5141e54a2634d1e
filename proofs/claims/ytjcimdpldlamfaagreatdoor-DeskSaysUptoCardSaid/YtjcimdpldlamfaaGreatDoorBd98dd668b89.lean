import Derived.Test.YtjcimdpldlamfaaGreatDoorBd7200b8ba72
import Derived.Test.YtjcimdpldlamfaaGreatDoorBd5de06ae57f
namespace Go.Proofs.YtjcimdpldlamfaaGreatDoor
set_option maxRecDepth 100000
set_option maxHeartbeats 4000000
open Go.RowKit Go.Shelf
theorem ci{out:List zw}(hn:ya out)(h:∀t,zE out t=true->-1000000000<=t/\t<1000000000):∀x,x∈out->zM x.f/\zM x.t:=λx hx=>by
 have hxl:=hn.2 x hx;have h1:=h x.f (hn.at_ hx (Int.le_refl _) hxl);have h2:=h (x.t-1) (hn.at_ hx (by omega) (by omega));unfold zM;omega
theorem aI{a b r o:List zw}(C:xx a)(E:∀t,zE r t=true↔-1000000000<=t/\t<1000000000/\¬zE b t=true)(D:∀t,zE o t=(zE a t && zE r t))(t:Int):zE o t=kE (zE a t) (zE b t):=by
 rw[D];unfold kE
 cases B:zE a t
 ·rfl
 have A:=C.inside B;rw[Bool.true_and,Bool.true_and,Bool.eq_iff_iff,E t];simp only[Bool.not_eq_true']
 constructor
 ·intro h;simpa using h.2.2
 intro h;exact⟨A.1,A.2,by simpa using h⟩
theorem Su(A B:Option Addr)(c d:Nat)(a b:List zw)(w:World)(hA:IvlsAt w A c a)(r:IvlsAt w B d b) :
  Calls Tryz.prog 175 #[.slice A a.length c,.slice B b.length d] w (ey (yu kE a b) w):=by
 have J:=RO A B c d a b w hA r
 by_cases g:tU a b=0
 case neg=>
  have hd:(tU a b != 0)=true:=by simpa using g
  have Z:Hid (yu kE a b (tU a b) []):=zc (YH g);clear g hA r;obtain⟨L,z⟩:∃L,tU a b=L:=⟨_,rfl⟩;rw[z]at J hd Z;clear z
  go_enter Tryz.func175,Tryz.ntmps175
  go_wp2_with (go_at_call 191;refine J.mono ?_;rintro e i ⟨rfl,s⟩);refine AP (v:=.tuple #[.slice none 0 0,.int .i64 L]) (by simp[results,Tryz.results175]) rfl ?_;exact⟨L,[],none,0,Z,rfl,.nil,s⟩
 rw[g]at J;obtain⟨ha,s⟩:=Zw g;obtain⟨k0,B0⟩:=li ha;obtain⟨l0,C0⟩:=li s;have mB:=r.len;have HA:=zc hA;have HB:=zc r;have l:=zc ha;have n:=zc s;have M:=zc B0;have Q:=zc C0;clear g ha s hA r B0 C0;obtain⟨i0,hi,E0,F0,G0⟩:=rj
 go_enter Tryz.func175,Tryz.ntmps175
 go_wp2_with (go_at_call 191;refine J.mono ?_;rintro e i ⟨rfl,N⟩);clear J;have D0:=N.size;have L0:=zc (HB.out.ext N);have HW:=zc N
 go_loopw [7,8,19] (λu v v' wr=>∃(k:Nat) (m:Int) (out:List zw),k<=b.length/\v=.int .i64 m/\v'=.int .i64 k/\Hid (Zo b k m out)/\out.length<=k/\Own xH 2 wr i.heap.size 94 u out/\Below i.heap.size i wr) (λ_ _ v' _=>b.length-(intOf v').toNat)
 case atStart=>exact⟨0,-1000000000,[],AA _,rfl,rfl,zc (Zo.start Q.out),Ay _,Own.nil,Ae _ _⟩
 clear N;obtain⟨k,m,out,hk,rfl,rfl,HG,m0,h,F⟩:=hrel;have U0:=F.size;obtain⟨Ao,co,rfl⟩:=h.form
 by_cases S0:k<b.length
 case neg=>
  obtain rfl:k=b.length:=by omega
  have Y:out.length+1<=1000000:=by omega
  by_cases G:m<1000000000
  case pos=>
   have d3:decide (m<1000000000)=true:=by simpa using G
   have H:=zc (HG.out.fin (Ay _) rfl);rw[Aq G]at H;clear G;go_wp2_with (at_builtin;refine zr (enc:=xH) rfl (.tmp 39) (.tmp 42) 65 rfl i.heap.size 94 i0 _ 2 16 Tryz.underlying65 hi E0 F0 G0 rfl (by decide) _ out ⟨m,1000000000⟩ rfl h #[.int .i64 m,.int .i64 1000000000] rfl wr.heap.size rfl rfl rfl pN Y (by decide) U0 ?_;intro gn N0 w6 E X A0 R0)
   obtain⟨Ax,cx,q,K⟩:=pc E (ci H.out.1 λt ht=>by have:=(H.out.2 t).1 ht;omega);have D:Below w.heap.size w w6:=HW.out.trans ((F.trans X).mono D0);have T:=XK A Ax c cx a _ w6 (HA.out.ext D) K M.out.norm H.out.1 (by omega) (by simp;omega);rw[<-q]at T;clear q K;refine T.mono ?_;rintro e w7 ⟨A7,c7,o7,o,rfl,R,V⟩;clear T;have P:Hid (∀t,zE o7 t=kE (zE a t) (zE b t)):=zc λt=>aI M.out H.out.2 o.out.2 t
   go_wp2_with fail;refine(YR (op:=kE) A7 c7 w7 (R.since D.size) l.out n.out o.out.1 P.out).mono ?_;rintro e w8 ⟨L,C,j,p,Z,rfl,S,W⟩;go_wp2_with fail;refine AP (v:=.tuple #[.slice j C.length p,.int .i64 L]) (by simp[results,Tryz.results175]) rfl ?_;exact⟨L,C,j,p,Z,rfl,S,za (za D V) W⟩
  have d3:decide (m<1000000000)=false:=by simpa using G
  have H:=zc (HG.out.fin (Ay _) rfl);rw[Au G]at H;clear G;obtain⟨Ax,cx,q,K⟩:=pc h (ci H.out.1 λt ht=>by have:=(H.out.2 t).1 ht;omega);have D:Below w.heap.size w wr:=HW.out.trans (F.mono D0);have T:=XK A Ax c cx a _ wr (HA.out.ext D) K M.out.norm H.out.1 (by omega) (by omega);rw[<-q]at T;clear q K;go_wp2_with fail;refine T.mono ?_;rintro e w7 ⟨A7,c7,o7,o,rfl,R,V⟩
  clear T;have P:Hid (∀t,zE o7 t=kE (zE a t) (zE b t)):=zc λt=>aI M.out H.out.2 o.out.2 t;go_wp2_with fail;refine(YR (op:=kE) A7 c7 w7 (R.since D.size) l.out n.out o.out.1 P.out).mono ?_;rintro e w8 ⟨L,C,j,p,Z,rfl,S,W⟩;go_wp2_with fail;refine AP (v:=.tuple #[.slice j C.length p,.int .i64 L]) (by simp[results,Tryz.results175]) rfl ?_
  exact⟨L,C,j,p,Z,rfl,S,za (za D V) W⟩
 obtain⟨x,hx⟩:=zl S0;obtain⟨bb,ob,rfl,y,x0,x1⟩:=L0.out.get hx;rw[<-F.cell (by exact y)]at x0 x1;have HX:=zc hx;clear hx;have Y:out.length+1<=1000000:=by omega
 by_cases G:m<x.f
 case pos=>
  have d3:decide (m<x.f)=true:=by simpa using G
  have I:=zc (HG.out.step Q.out HX.out rfl);rw[Aq G]at I;clear G;obtain⟨z0,z1,z2⟩:=(zj.new wr 94 #[.int .i64 x.f,.int .i64 x.t]).facts;have U:=h.alloc (Obj.cells #[Value.int IntKind.i64 x.f,Value.int IntKind.i64 x.t] 94);have O:=ze F (Obj.cells #[Value.int IntKind.i64 x.f,Value.int IntKind.i64 x.t] 94);go_wp2_with (at_builtin;refine zr (enc:=xH) rfl (.tmp 27) (.tmp 32) 65 rfl i.heap.size 94 i0 _ 2 16 Tryz.underlying65 hi E0 F0 G0 rfl (by decide) _ out ⟨m,x.f⟩ rfl U #[.int .i64 m,.int .i64 x.f] rfl (wr.heap.size+1) (by simp) rfl rfl pN Y (by decide) O.size ?_;intro gn N0 w6 E X A0 R0;obtain⟨q0,q1,q2⟩:=(A0 _ _ _ (zj.new wr 94 #[.int .i64 x.f,.int .i64 x.t]) (h.block_lt (Ay _))).facts;clear z0 z1 z2)
  go_roundw
  case rel=>exact⟨k+1,x.t,out++[⟨m,x.f⟩],by omega,rfl,by go_num,I,by simp;omega,by simpa using E,O.trans X⟩
  case measure=>simp[intOf];omega
 have d3:decide (m<x.f)=false:=by simpa using G
 have I:=zc (HG.out.step Q.out HX.out rfl);rw[Au G]at I;clear G;have U:=h.alloc (Obj.cells #[Value.int IntKind.i64 x.f,Value.int IntKind.i64 x.t] 94);have O:=ze F (Obj.cells #[Value.int IntKind.i64 x.f,Value.int IntKind.i64 x.t] 94);go_wp2_with fail;go_roundw
 case rel=>exact⟨k+1,x.t,out,by omega,rfl,by go_num,I,by omega,U,O⟩
 case measure=>simp[intOf];omega
set_option maxHeartbeats 16000000
open Go.RowKit
theorem Sh(x:zw):(xH x).length=2:=rfl
theorem mi.len{h:Int}{A was F:List zg}{k:Nat}(B:mi h A was F k)(h0:0<=h):(F.length:Int)<=h:=by
 have:=pe (l:=F.map λx=>(x.f,x.t)) (lo:=0) (hi:=h) (List.pairwise_map.2 B.rise) (λy D=>by
  obtain⟨x,C,rfl⟩:=AD.1 D;have:=(B.in_ x C).1;exact⟨this.2.1,this.1,this.2.2⟩) h0
 simpa using this
theorem QR{p:zg}{was:List zg}{rest:List zw}{h:Int}(A:iT p was rest)(D:0<=p.f/\p.f<p.t/\p.t<=h):(rest.length:Int)<=h:=by
 have:=pe (l:=rest.map λx=>(x.f,x.t)) (lo:=0) (hi:=h) (List.pairwise_map.2 (A.1.1.imp λk=>Int.le_of_lt k)) (λy C=>by
  obtain⟨x,B,rfl⟩:=AD.1 C;have:=es A x B;exact⟨this.2.1,by omega,by omega⟩) (by omega)
 simpa using this
def Rn(h:Int)(now was:List zg)(w:World)(e:Ending)(w':World):Prop:=∃A c F,Hid (sB h now (val was) F)/\e=.returned (.slice A F.length c)/\xL w.heap.size w' A c F/\Below w.heap.size w w'
theorem YJ(h:Int)(A B:Option Addr)(c d:Nat)(D was:List zg)(w:World)(hA:PiecesAt w A c D)(hB:PiecesAt w B d was)(T:wK h D)(W:wK h was)(h1:1<=h)(O0:h<=100) :
  Calls Tryz.prog 165 #[.slice A D.length c,.slice B was.length d] w (Rn h D was w):=by
 obtain⟨i0,hi,Q1,R1,S1⟩:=mU;obtain⟨j0,hj,N1,O1,P1⟩:=rj;have HA:=zc hA;have HB:=zc hB;have HN:=zc T;have HW:=zc W;have m1:=hA.len;have m2:=hB.len;have R2:D.length<=100:=by have:=T.len (by omega);omega
 have T2:was.length<=100:=by have:=W.len (by omega);omega
 clear hA hB T W
 go_enter Tryz.func165,Tryz.ntmps165
 go_wp2_with fail
 go_loopw [5,18] (λu v wr=>∃(k:Nat) (F:List zg),v=.int .i64 k/\k<=D.length/\Hid (mi h D was F k)/\Own zK 3 wr w.heap.size 113 u F/\Below w.heap.size w wr) (λ_ v _=>D.length-(intOf v).toNat)
 case atStart=>exact⟨0,[],rfl,AA _,zc mi.start,Own.nil,Ae _ _⟩
 obtain⟨k,F,rfl,hk,HK,I,E⟩:=hrel;have o:=E.size;have J2:F.length<=100:=by have:=HK.out.len (by omega);omega
 obtain⟨AF,cF,rfl⟩:=I.form
 by_cases L1:k<D.length
 case neg=>
  obtain rfl:k=D.length:=by omega
  have HF:=zc (HK.out.fin HN.out HW.out (Ay _));obtain⟨A2,c2,e2,hP⟩:=dS I (λx P=>by
   obtain⟨q1,q2⟩:=HK.out.in_ x P;exact⟨⟨by omega,by omega⟩,⟨by omega,by omega⟩,⟨by omega,by omega⟩⟩)
  obtain⟨rfl,rfl⟩:AF=A2/\cF=c2:=by simpa using e2
  clear HK;go_wp2_with fail;go_ret;exact⟨AF,cF,F,HF,rfl,hP,E⟩
 obtain⟨p,hp⟩:=zl L1;obtain⟨b,X2,rfl,D0,x0,x1,x2⟩:=HA.out.get hp;have x0:=(E.cell (p:=⟨b,_,none⟩) D0).trans x0;have x1:=(E.cell (p:=⟨b,_,none⟩) D0).trans x1;have x2:=(E.cell (p:=⟨b,_,none⟩) D0).trans x2;have F0:=Ad hp;have U:=HN.out.in_ p F0;have c0:=HN.out.map.2 p F0;have HP:=zc hp;clear hp F0;go_wp2_with fail;obtain⟨L,n⟩:∃L,L=wr.heap.size:=⟨_,rfl⟩;have J:zj ((wr.alloc (Obj.cells #[.int .i64 p.f,.int .i64 p.t,.int .i64 p.v] 113)).alloc (Obj.cells #[] 94)) L 113 #[.int .i64 p.f,.int .i64 p.t,.int .i64 p.v]:=by rw[n];exact(zj.new _ _ _).alloc _
 have M:=(I.alloc (Obj.cells #[.int .i64 p.f,.int .i64 p.t,.int .i64 p.v] 113)).alloc (Obj.cells #[] 94);have W0:Own xH 2 ((wr.alloc (Obj.cells #[.int .i64 p.f,.int .i64 p.t,.int .i64 p.v] 113)).alloc (Obj.cells #[] 94)) w.heap.size 94 (.slice (some ⟨L+1,0,none⟩) 0 0) (vr p (was.take 0)):=by
  rw[n];exact Own.lit (enc:=xH) (l:=[]) (by simp) (by omega) rfl rfl rfl (by decide)
 have H:=ze (ze E (Obj.cells #[.int .i64 p.f,.int .i64 p.t,.int .i64 p.v] 113)) (Obj.cells #[] 94);have b0:some L≠(Value.slice AF F.length cF).ownBlock:=I.block_lt (by omega);have g1:w.heap.size<=L:=by omega
 rw[<-n];clear x0 x1 x2 I E o n
 go_loopw [8,25] (λu v wr=>∃j:Nat,v=.int .i64 j/\j<=was.length/\Own xH 2 wr w.heap.size 94 u (vr p (was.take j))/\zj wr L 113 #[.int .i64 p.f,.int .i64 p.t,.int .i64 p.v]/\Own zK 3 wr w.heap.size 113 (.slice AF F.length cF) F/\Below w.heap.size w wr) (λ_ v _=>was.length-(intOf v).toNat)
 case atStart=>exact⟨0,rfl,AA _,W0,J,M,H⟩
 clear J M W0 H;obtain⟨j,rfl,Q2,hS,J,I,E⟩:=hrel;have o:=E.size;have e0:=jn p (was.take j);rw[AE]at e0;obtain⟨C,G0⟩:∃C,vr p (was.take j)=C:=⟨_,rfl⟩;have K0:=zc G0;rw[G0]at hS e0;clear G0;obtain⟨AS,cS,rfl⟩:=hS.form;have K1:C.length+1<=1000000:=by omega
 by_cases Z0:j<was.length
 case pos=>
  obtain⟨q,hq⟩:=zl Z0;obtain⟨b',k1,rfl,Q,y0,y1,y2⟩:=HB.out.get hq;have y0:=(E.cell (p:=⟨b',_,none⟩) Q).trans y0;have y1:=(E.cell (p:=⟨b',_,none⟩) Q).trans y1;have y2:=(E.cell (p:=⟨b',_,none⟩) Q).trans y2;have Y:=zc (Wp (p:=p) hq);rw[K0.out]at Y;obtain⟨s1,_,t1⟩:=J.facts;have z0:(wr.alloc (Obj.cells #[.int .i64 q.f,.int .i64 q.t,.int .i64 q.v] 113)).cell? ⟨L,0,none⟩=some (.int .i64 p.f):=(J.alloc _).cell 0
  have z1:(wr.alloc (Obj.cells #[.int .i64 q.f,.int .i64 q.t,.int .i64 q.v] 113)).cell? ⟨L,1,none⟩=some (.int .i64 p.t):=(J.alloc _).cell 1;have z2:(wr.alloc (Obj.cells #[.int .i64 q.f,.int .i64 q.t,.int .i64 q.v] 113)).cell? ⟨L,2,none⟩=some (.int .i64 p.v):=(J.alloc _).cell 2;clear hq
  by_cases N:max p.f q.f<min p.t q.t
  case neg=>
   have d1:decide (max p.f q.f<min p.t q.t)=false:=by simpa using N
   have r:Hid (vr p (was.take (j+1))=C):=zc (by rw[Y.out,Au (λh=>N h.1),AR]);clear N;go_wp2_with fail;go_roundw
   case rel=>exact⟨j+1,by go_num,by omega,by rw[r.out];exact(hS.alloc _).alloc _,(J.alloc _).alloc _,(I.alloc _).alloc _,ze (ze E _) _⟩
   case measure=>simp[intOf];omega
  have d1:decide (max p.f q.f<min p.t q.t)=true:=by simpa using N
  have K:zj ((wr.alloc (Obj.cells #[.int .i64 q.f,.int .i64 q.t,.int .i64 q.v] 113)).alloc (Obj.cells #[.int .i64 (max p.f q.f),.int .i64 (min p.t q.t)] 94)) L 113 #[.int .i64 p.f,.int .i64 p.t,.int .i64 p.v]:=(J.alloc _).alloc _;have w2:=K.cell 2
  by_cases m:q.v<=p.v
  case neg=>
   have d2:decide (p.v ≥ q.v)=false:=by simp;omega
   have r:Hid (vr p (was.take (j+1))=C):=zc (by rw[Y.out,Au (λh=>m h.2),AR]);clear N m;go_wp2_with fail;go_roundw
   case rel=>exact⟨j+1,by go_num,by omega,by rw[r.out];exact(hS.alloc _).alloc _,K,(I.alloc _).alloc _,ze (ze E _) _⟩
   case measure=>simp[intOf];omega
  have d2:decide (p.v ≥ q.v)=true:=by simp;omega
  have r:Hid (vr p (was.take (j+1))=C++[⟨max p.f q.f,min p.t q.t⟩]):=zc (by rw[Y.out,Aq ⟨N,m⟩]);have C0:=(hS.alloc (Obj.cells #[.int .i64 q.f,.int .i64 q.t,.int .i64 q.v] 113)).alloc (Obj.cells #[.int .i64 (max p.f q.f),.int .i64 (min p.t q.t)] 94);have M:=(I.alloc (Obj.cells #[.int .i64 q.f,.int .i64 q.t,.int .i64 q.v] 113)).alloc (Obj.cells #[.int .i64 (max p.f q.f),.int .i64 (min p.t q.t)] 94)
  have H:=ze (ze E (Obj.cells #[.int .i64 q.f,.int .i64 q.t,.int .i64 q.v] 113)) (Obj.cells #[.int .i64 (max p.f q.f),.int .i64 (min p.t q.t)] 94);have X:=H.size;clear N m;go_wp2_with (at_builtin;refine zr (enc:=xH) rfl (.tmp 52) (.tmp 54) 65 rfl w.heap.size 94 j0 _ 2 16 Tryz.underlying65 hj N1 O1 P1 rfl (by decide) _ C ⟨max p.f q.f,min p.t q.t⟩ rfl C0 #[.int .i64 (max p.f q.f),.int .i64 (min p.t q.t)] rfl (wr.heap.size+1+1) (by simp) rfl rfl pN K1 (by decide) X ?_;intro gn M0 w6 O E0 S X0;have z:=S _ _ _ K (C0.other K (by decide));have F1:Own zK 3 w6 w.heap.size 113 (.slice AF F.length cF) F:=M.keep (λb cs h=>S _ _ _ h (C0.other h (by decide))))
  go_roundw
  case rel=>exact⟨j+1,by go_num,by omega,by rw[r.out];exact O,z,F1,H.trans E0⟩
  case measure=>simp[intOf];omega
 have r:Hid (C=vr p was):=zc (by rw[<-K0.out,AJ (by omega)]);have d0:∀x,x∈C->0<=x.f/\x.f<x.t/\x.t<=h:=by rw[r.out];exact aQ U.1
 obtain⟨A2,c2,e2,hI⟩:=pc hS (λx P=>by have:=d0 x P;exact⟨⟨by omega,by omega⟩,by omega,by omega⟩);obtain⟨rfl,rfl⟩:AS=A2/\cS=c2:=by simpa using e2
 obtain⟨z0,_,_⟩:=J.facts;have S0:=Xu AS cS C wr hI.toIvlsAt;clear d0 e2;go_wp2_with fail;refine S0.mono ?_;rintro e w3 ⟨er,nm,A3,c3,t0,rfl,P0,Z⟩;have y:=J.ext Z;have T0:=I.ext Z;have R:=za E Z;obtain⟨z0,_,_⟩:=y.facts;clear S0 Z;go_wp2_with fail;have R0:IvlsAt (w3.alloc (Obj.cells #[.int .i64 p.f,.int .i64 p.t] 94)) (some ⟨w3.heap.size,0,none⟩) 1 [⟨p.f,p.t⟩]:=by
  have B:=zj.new w3 94 #[.int .i64 p.f,.int .i64 p.t];refine⟨Ay _,by decide,w3.heap.size,0,λi x P=>?_⟩
  match i,P with
  |0,P=>
   obtain rfl:(⟨p.f,p.t⟩:zw)=x:=by simpa using P
   exact⟨rfl,B.lt,⟨by unfold zJ;rw[B.cell];rfl,by unfold zJ;rw[B.cell];rfl⟩,⟨by simp only;omega,by simp only;omega⟩,by simp only;omega,by simp only;omega⟩
  |i+1,P=>simp at P
 refine(Su _ _ _ _ [⟨p.f,p.t⟩] nm _ R0 (P0.toIvlsAt.ext (ze (Ae _ _) _))).mono ?_;rintro e w4 ⟨H2,rest,A4,c4,q0,rfl,Q0,a⟩;have I0:=(y.alloc _).ext a;have U0:=(T0.alloc _).ext a;have s:=za (ze R _) a;have A0:Hid (iT p was rest):=zc (by
  have hn:=t0.out;rw[r.out]at hn;exact PR (h:=h) ⟨U.1.1,c0,U.1.2⟩ h1 O0 (HW.out.len (by omega)) hn q0.out)
 have S2:rest.length<=100:=by have:=QR A0.out ⟨U.1.1,c0,U.1.2⟩;omega
 have V0:Own xH 2 w4 w.heap.size 94 (.slice A4 rest.length c4) rest:=Q0.own.since (by simp;have:=R.size;omega);clear Q0 R0 P0 hI hS J I a R E o z0 T0 y;go_wp2_with fail
 go_loopw [5,75] (λu v wr=>∃i:Nat,v=.int .i64 i/\i<=rest.length/\Own zK 3 wr w.heap.size 113 u (F++(rest.take i).map (pG p.v))/\zj wr L 113 #[.int .i64 p.f,.int .i64 p.t,.int .i64 p.v]/\some L≠u.ownBlock/\Own xH 2 wr w.heap.size 94 (.slice A4 rest.length c4) rest/\Below w.heap.size w wr) (λ_ v _=>rest.length-(intOf v).toNat)
 case atStart=>exact⟨0,rfl,AA _,by simpa using U0,I0,b0,V0,s⟩
 clear U0 I0 V0 s;obtain⟨i,rfl,O2,I,J,a0,hR,E⟩:=hrel;have o:=E.size;obtain⟨G,hG⟩:∃G,F++(rest.take i).map (pG p.v)=G:=⟨_,rfl⟩;have HG:=zc hG;have E1:G.length+1<=1000000:=by rw[<-hG,Ag,Az,AE];omega
 rw[hG]at I;clear hG;obtain⟨AG,cG,rfl⟩:=I.form
 by_cases Y0:i<rest.length
 case neg=>
  have p0:Hid (mi h D was G (k+1)):=zc (by
   have:=HK.out.next HN.out HW.out HP.out A0.out;rw[<-HG.out,AJ (by omega)];exact this)
  go_wp2_with fail;go_roundw
  case rel=>exact⟨k+1,G,by go_num,by omega,p0,I,E⟩
  case measure=>simp[intOf];omega
 obtain⟨x,P⟩:=zl Y0;have J1:∃g,A4=some ⟨g,0,none⟩:=by
  rcases hR.2 with⟨_,h0⟩|⟨g,M0,E2,hv,_⟩
  ·omega
  simp only[Value.slice.injEq]at hv;exact⟨g,hv.1⟩
 obtain⟨g4,rfl⟩:=J1;obtain⟨_,L2,_,_,N0,B4,_,V⟩:=hR.cells Sh;have r0:N0[i*2]?=some (.int .i64 x.f):=by have:=V i x P 0 (by decide);simpa[xH]using this
 have r1:N0[i*2+1]?=some (.int .i64 x.t):=by have:=V i x P 1 (by decide);simpa[xH]using this
 have C2:=zc (es A0.out x (Ad P));have s0:Hid (F++(rest.take (i+1)).map (pG p.v)=G++[⟨x.f,x.t,p.v⟩]):=zc (by
  rw[<-HG.out,AO,P];simp[pG])
 obtain⟨b1,b2,b3⟩:=B4.facts;have K:=J.alloc (Obj.cells #[.int .i64 x.f,.int .i64 x.t] 94);obtain⟨z1,z2,z3⟩:=K.facts;have M:=I.alloc (Obj.cells #[.int .i64 x.f,.int .i64 x.t] 94);have H1:=hR.alloc (Obj.cells #[.int .i64 x.f,.int .i64 x.t] 94);have H:=ze E (Obj.cells #[.int .i64 x.f,.int .i64 x.t] 94);have X:=H.size;have M2:L<wr.heap.size:=J.lt;clear P V;go_wp2_with (at_builtin;refine zr (enc:=zK) rfl (.tmp 79) (.tmp 87) 111 rfl w.heap.size 113 i0 _ 3 24 Tryz.underlying111 hi Q1 R1 S1 rfl (by decide) _ G ⟨x.f,x.t,p.v⟩ rfl M #[.int .i64 x.f,.int .i64 x.t,.int .i64 p.v] rfl (wr.heap.size+1) (by simp) rfl rfl mg E1 (by decide) X ?_;intro gn M0 w6 O E0 S X0;have z:=S _ _ _ K a0;have I1:Own xH 2 w6 w.heap.size 94 (.slice (some ⟨g4,0,none⟩) rest.length c4) rest:=H1.keep (λb cs h=>S _ _ _ h (M.other h (by decide))))
 go_roundw
 case rel=>
  refine⟨i+1,by go_num,by omega,by rw[s0.out];exact O,z,?_,I1,H.trans E0⟩;intro e9;simp only[Value.ownBlock]at e9;obtain rfl:L=gn:=AB e9;rcases X0 with h9|h9
  ·exact a0 h9.symm
  simp at h9;omega
 case measure=>simp[intOf];omega
set_option maxHeartbeats 8000000
def fq(x y:Option Int):Option Int:=match x with|some v=>some v|none=>y
def SF(p:zg):List zg:=if p.t<=p.f then [] else [p]
theorem iu(p:zg)(m:List zg)(t:Int):fq (xN (SF p) t) (xN m t)=pd m p t:=by
 unfold SF pd
 by_cases h:p.t<=p.f
 ·rw[Aq h,Au (by omega)];rfl
 rw[Au h]
 by_cases A:p.f<=t/\t<p.t
 ·rw[Aq A,ut A];rfl
 rw[Au A,xC A];rfl
theorem OD{W:World}{b:Nat}{p:zg}(h:zj W b 113 #[.int .i64 p.f,.int .i64 p.t,.int .i64 p.v])(h1:zM p.f)(B:zM p.t)(C:zM p.v):PiecesAt W (some ⟨b,0,none⟩) 1 [p]:=by
 refine⟨Ay _,by decide,b,0,λk x A=>?_⟩;obtain⟨rfl,rfl⟩:k=0/\x=p:=by
  match k,A with
  |0,A=>exact⟨rfl,by simpa using A.symm⟩
  |k+1,A=>simp at A
 exact⟨rfl,h.lt,⟨h.cell 0,h.cell 1,h.cell 2⟩,h1,B,C⟩
theorem nj.tells{E:Int->Option Int}{F:Int}{B:List zg}(h:nj E F B)(I:∀t v,E t=some v->zL v=true):tD E F B:=by
 obtain⟨U,G,H,A,C⟩:=h
 by_cases D:200<U.length
 ·rw[Aq D]at A C
  exact⟨U,G,H,by rw[A,kJ I D],λh=>by omega,λ_=>C⟩
 rw[Au D]at A C;exact⟨U,G,H,by rw[A,mf I D],λ_=>C,λh=>absurd A h⟩
theorem iz{m:List zg}{p:zg}{t v:Int}(h0:yd m=0)(A:zL p.v=true)(h:pd m p t=some v):zL v=true:=by
 unfold pd at h
 split at h
 ·obtain rfl:p.v=v:=by simpa using h
  exact A
 exact(wI h0).2.vals h
theorem YZ:Enters Tryz.prog 172:=enters_of Tryz.func172 (by kernel_rfl) rfl
theorem XX(A B:Option Addr)(c d K G:Nat)(E m:List zg)(t:Int)(W:World)(Q:W.cell? ⟨K,0,none⟩=some (.slice A E.length c))(F:W.cell? ⟨G,0,none⟩=some (.slice B m.length d))(L:PiecesAt W A c E)(M:PiecesAt W B d m) :
  Calls Tryz.prog 172 #[.int .i64 t,.pointer (some ⟨K,0,none⟩),.pointer (some ⟨G,0,none⟩)] W λe R=>e=.returned (Pv (fq (xN E t) (xN m t)))/\Below W.heap.size W R:=by
 have J:G<W.heap.size:=World.block_lt_of_cell? W _ F;have C:=ja A c E t W L;have P:=zc M;clear L M
 cases H:xN E t with
 |some y=>
  rw[H]at C;unfold Pv at C;simp only[Option.getD_some,Option.isSome_some]at C;clear H
  go_enter Tryz.func172,Tryz.ntmps172
  go_wp2_with fail;refine C.mono ?_;rintro e O ⟨rfl,D⟩;clear C;go_wp2_with fail;refine AP (v:=.tuple #[.int .i64 y,.bool true]) (by simp[results,Tryz.results172]) rfl ?_;exact⟨rfl,D⟩
 |none=>
  rw[H]at C;unfold Pv at C;simp only[Option.getD_none,Option.isSome_none]at C;clear H
  go_enter Tryz.func172,Tryz.ntmps172
  go_wp2_with fail;refine C.mono ?_;rintro e O ⟨rfl,D⟩;have N:=(D.cell (p:=⟨G,0,none⟩) J).trans F;clear C;go_wp2_with fail;refine(ja B d m t O (P.out.ext D)).mono ?_;rintro e S ⟨rfl,I⟩;unfold Pv;go_wp2_with fail;refine AP (v:=.tuple #[.int .i64 ((xN m t).getD 0),.bool (xN m t).isSome]) (by simp[results,Tryz.results172]) rfl ?_;exact⟨rfl,za D I⟩
theorem fw(A:Option Addr)(c:Nat)(m:List zg)(p:zg)(w:World)(F:PiecesAt w A c m):Calls Tryz.prog 164 #[.slice A m.length c,dV p] w (Rv (xY m p) w):=by
 have m1:=F.len;have HI:=zc F;clear F;have hmf:∀(fn:Fn) (first cap:Array Value) (w:World),(Instr.makeFunc fn first cap).run Tryz.prog w=.ok (.func fn first cap) w:=λ_ _ _ _=>rfl;have hent:=YZ;unfold Enters at hent
 go_enter Tryz.func164,Tryz.ntmps164
 go_wp2_with fail;obtain⟨r,Q⟩:∃r,r=((w.alloc (Obj.cells #[.slice A m.length c] 111)).alloc (Obj.cells #[.int .i64 p.f,.int .i64 p.t,.int .i64 p.v] 113)):=⟨_,rfl⟩;have i:Below w.heap.size w r:=by rw[Q];go_grown
 have Bm:zj r w.heap.size 111 #[.slice A m.length c]:=by rw[Q];exact(zj.new _ _ _).alloc _
 have u:zj r (w.heap.size+1) 113 #[.int .i64 p.f,.int .i64 p.t,.int .i64 p.v]:=by rw[Q];exact zj.new_ (by simp)
 rw[<-Q];clear Q;refine(ky A c m r (HI.out.ext i)).mono ?_;rintro e C ⟨rfl,G⟩;have Bm:=Bm.ext G;have u:=u.ext G;have G:=za i G;have F:=HI.out.ext G;clear i
 by_cases Z:yd m=0
 case neg=>
  have hd:(yd m != 0)=true:=by simpa using Z
  have X:Hid (xY m p (yd m) []):=zc (by unfold xY;rw[Au Z];exact⟨rfl,rfl⟩);clear Z;go_wp2_with fail;refine AP (v:=.tuple #[.slice none 0 0,.int .i64 (yd m)]) (by simp[results,Tryz.results164]) rfl ?_;exact⟨_,[],none,0,X,rfl,.nil,G⟩
 rw[Z];have HO:=zc (wI Z);have U:=zc Z;clear Z;obtain⟨p1,p2,p3⟩:=u.facts;have E:∀(h:¬(zL p.f=true/\zL p.t=true/\zL p.v=true)),Hid (xY m p 5 []):=λh=>zc (by unfold xY;rw[Aq U.out,Au h];exact⟨rfl,rfl⟩)
 cases f1:vp p.f
 case true=>
  have X:=E λh=>by rw[mP f1]at h;simp at h
  clear E;go_wp2_with (first|(go_at_call 169;refine(uz (by assumption) _).mono ?_;rintro e w' ⟨rfl,rfl⟩));refine AP (v:=.tuple #[.slice none 0 0,.int .i64 5]) (by simp[results,Tryz.results164]) rfl ?_;exact⟨_,[],none,0,X,rfl,.nil,G⟩
 cases f2:vp p.t
 case true=>
  have X:=E λh=>by rw[mP f2]at h;simp at h
  clear E;go_wp2_with (first|(go_at_call 169;refine(uz (by assumption) _).mono ?_;rintro e w' ⟨rfl,rfl⟩));refine AP (v:=.tuple #[.slice none 0 0,.int .i64 5]) (by simp[results,Tryz.results164]) rfl ?_;exact⟨_,[],none,0,X,rfl,.nil,G⟩
 cases f3:vp p.v
 case true=>
  have X:=E λh=>by rw[mP f3]at h;simp at h
  clear E;go_wp2_with (first|(go_at_call 169;refine(uz (by assumption) _).mono ?_;rintro e w' ⟨rfl,rfl⟩));refine AP (v:=.tuple #[.slice none 0 0,.int .i64 5]) (by simp[results,Tryz.results164]) rfl ?_;exact⟨_,[],none,0,X,rfl,.nil,G⟩
 clear E;have R:Hid (zL p.f=true/\zL p.t=true/\zL p.v=true):=zc ⟨wU f1,wU f2,wU f3⟩;have n:∀o:Value,Hid (zj (((C.alloc (Obj.cells #[.int .i64 p.f,.int .i64 p.t,.int .i64 p.v] 113)).alloc (Obj.cells #[o] 111))) w.heap.size 111 #[.slice A m.length c]/\zj (((C.alloc (Obj.cells #[.int .i64 p.f,.int .i64 p.t,.int .i64 p.v] 113)).alloc (Obj.cells #[o] 111))) (w.heap.size+1) 113 #[.int .i64 p.f,.int .i64 p.t,.int .i64 p.v]/\zj (((C.alloc (Obj.cells #[.int .i64 p.f,.int .i64 p.t,.int .i64 p.v] 113)).alloc (Obj.cells #[o] 111))) C.heap.size 113 #[.int .i64 p.f,.int .i64 p.t,.int .i64 p.v]/\zj (((C.alloc (Obj.cells #[.int .i64 p.f,.int .i64 p.t,.int .i64 p.v] 113)).alloc (Obj.cells #[o] 111))) (C.heap.size+1) 111 #[o]/\Below w.heap.size w ((C.alloc (Obj.cells #[.int .i64 p.f,.int .i64 p.t,.int .i64 p.v] 113)).alloc (Obj.cells #[o] 111))):=λo=>by
  refine zc ⟨(Bm.alloc _).alloc _,(u.alloc _).alloc _,(zj.new _ _ _).alloc _,zj.new_ (by simp),ze (ze G _) _⟩
 obtain⟨t1,t2,-,t4,-⟩:=(n (.slice (some ⟨C.heap.size,0,none⟩) 1 1)).out;obtain⟨q1,q2,q3⟩:=t2.facts;obtain⟨r1,r2,r3⟩:=t4.facts;obtain⟨s1,s2,s3⟩:=t1.facts;clear t1 t2 t4 Bm u F
 by_cases g:p.t<=p.f
 case pos=>
  have hd:decide (p.t<=p.f)=true:=by simpa using g
  have y:Hid (SF p=[]):=zc (by unfold SF;rw[Aq g]);have q:=n (.slice none 0 0);obtain⟨u1,-,-,u4,-⟩:=q.out;obtain⟨x1,x2,x3⟩:=u1.facts;obtain⟨y1,y2,y3⟩:=u4.facts;clear u1 u4;obtain⟨W,S⟩:∃W,W=(C.alloc (Obj.cells #[.int .i64 p.f,.int .i64 p.t,.int .i64 p.v] 113)).alloc (Obj.cells #[.slice none 0 0] 111):=⟨_,rfl⟩;have P:C.heap.size+1+1=W.heap.size:=by rw[S];simp
  have Y:=zc P;obtain⟨I,-,K3,J,H⟩:=q.out;rw[<-S]at I K3 J H;have HW:=zc S;clear q S P;have F:=HI.out.ext H;have K:PiecesAt W none 0 []:=PiecesAt.nil;have B5:=zj.new W 111 #[.slice A m.length c,.slice none 0 0];have I:=I.alloc (Obj.cells #[.slice A m.length c,.slice none 0 0] 111);have J:=J.alloc (Obj.cells #[.slice A m.length c,.slice none 0 0] 111);have H:=ze H (Obj.cells #[.slice A m.length c,.slice none 0 0] 111)
  have F:=F.ext (ze (Ae _ W) (Obj.cells #[.slice A m.length c,.slice none 0 0] 111));have K:=K.ext (ze (Ae _ W) (Obj.cells #[.slice A m.length c,.slice none 0 0] 111));have a:=aa W.heap.size A none c 0 m [] _ B5 F K (by have:=HO.out.1;omega) (by simp);obtain⟨c1,c2,z⟩:=I.facts;obtain⟨e1,e2,e3⟩:=J.facts;rw[<-Y.out]at a;go_wp2_with (first|(go_at_call 169;refine(uz (by assumption) _).mono ?_;rintro e w' ⟨rfl,rfl⟩))
  rw[<-HW.out];refine a.mono ?_;rintro e w3 ⟨A3,z,D,L,rfl,b,B⟩;have I:=I.ext B;have J:=J.ext B;have H:=za H B;have F:=F.ext B;have K:=K.ext B;clear a c1 c2 e1 e2 e3;have O:D.length<=10000:=by
   have N:=L.out.2.2;rw[Ag,xO,xO]at N;have h2:=HO.out.1;simp only[AC]at N;omega
  have hT:=YS 172 #[.pointer (some ⟨C.heap.size+1,0,none⟩),.pointer (some ⟨w.heap.size,0,none⟩)] (pd m p) hent A3 z D w3 b O L.out.1
   (by
    have N:=(pD (l:=[]) L.out.1 L.out.2.1 λ_ h=>List.mem_append_right _ h).map2 fq (nc:=none) rfl (pD (l:=m) L.out.1 L.out.2.1 λ_ h=>List.mem_append_left _ h);have h2:(λt=>fq (xN [] t) (xN m t))=pd m p:=funext λt=>by rw[<-y.out];exact iu p m t
    rwa[h2]at N)
   (λt v k=>un (iz U.out R.out.2.2 k))
   (λW' x T=>by
    have N:=XX none A 0 c (C.heap.size+1) w.heap.size [] m x W' ((J.ext T).cell 0) ((I.ext T).cell 0) (K.ext T) (F.ext T)
    rwa[show fq (xN [] x) (xN m x)=pd m p x by rw[<-y.out];exact iu p m x]at N)
  have V:=zc λM out (h:nj (pd m p) M out)=>show xY m p M out by
   unfold xY;rw[Aq U.out,Aq R.out];exact h.tells λt v k=>iz U.out R.out.2.2 k
  clear O F K B;go_wp2_with fail;refine hT.mono ?_;rintro e w4 ⟨M,out,s,c4,HR,rfl,d,j⟩;clear hT;go_wp2_with fail;refine AP (v:=.tuple #[.slice s out.length c4,.int .i64 M]) (by simp[results,Tryz.results164]) rfl ?_;exact⟨M,out,s,c4,zc (V.out M out HR.out),rfl,d.since H.size,za H j⟩
 have hd:decide (p.t<=p.f)=false:=by simp;omega
 have y:Hid (SF p=[p]):=zc (by unfold SF;rw[Au g]);have q:=n (.slice (some ⟨C.heap.size,0,none⟩) 1 1)
 skip
 obtain⟨W,S⟩:∃W,W=(C.alloc (Obj.cells #[.int .i64 p.f,.int .i64 p.t,.int .i64 p.v] 113)).alloc (Obj.cells #[.slice (some ⟨C.heap.size,0,none⟩) 1 1] 111):=⟨_,rfl⟩;have P:C.heap.size+1+1=W.heap.size:=by rw[S];simp
 have Y:=zc P;obtain⟨I,-,K3,J,H⟩:=q.out;rw[<-S]at I K3 J H;have HW:=zc S;clear q S P;have F:=HI.out.ext H;have K:PiecesAt W (some ⟨C.heap.size,0,none⟩) 1 [p]:=OD K3 (un R.out.1) (un R.out.2.1) (un R.out.2.2);have B5:=zj.new W 111 #[.slice A m.length c,.slice (some ⟨C.heap.size,0,none⟩) 1 1];have I:=I.alloc (Obj.cells #[.slice A m.length c,.slice (some ⟨C.heap.size,0,none⟩) 1 1] 111)
 have J:=J.alloc (Obj.cells #[.slice A m.length c,.slice (some ⟨C.heap.size,0,none⟩) 1 1] 111);have H:=ze H (Obj.cells #[.slice A m.length c,.slice (some ⟨C.heap.size,0,none⟩) 1 1] 111);have F:=F.ext (ze (Ae _ W) (Obj.cells #[.slice A m.length c,.slice (some ⟨C.heap.size,0,none⟩) 1 1] 111));have K:=K.ext (ze (Ae _ W) (Obj.cells #[.slice A m.length c,.slice (some ⟨C.heap.size,0,none⟩) 1 1] 111))
 have a:=aa W.heap.size A (some ⟨C.heap.size,0,none⟩) c 1 m [p] _ B5 F K (by have:=HO.out.1;omega) (by simp);obtain⟨c1,c2,z⟩:=I.facts;obtain⟨e1,e2,e3⟩:=J.facts;rw[<-Y.out]at a;go_wp2_with (first|(go_at_call 169;refine(uz (by assumption) _).mono ?_;rintro e w' ⟨rfl,rfl⟩));rw[<-HW.out];refine a.mono ?_;rintro e w3 ⟨A3,z,D,L,rfl,b,B⟩;have I:=I.ext B;have J:=J.ext B
 have H:=za H B;have F:=F.ext B;have K:=K.ext B;clear a c1 c2 e1 e2 e3;have O:D.length<=10000:=by
  have N:=L.out.2.2;rw[Ag,xO,xO]at N;have h2:=HO.out.1;simp only[Ap,AC]at N;omega
 have hT:=YS 172 #[.pointer (some ⟨C.heap.size+1,0,none⟩),.pointer (some ⟨w.heap.size,0,none⟩)] (pd m p) hent A3 z D w3 b O L.out.1
  (by
   have N:=(pD (l:=[p]) L.out.1 L.out.2.1 λ_ h=>List.mem_append_right _ h).map2 fq (nc:=none) rfl (pD (l:=m) L.out.1 L.out.2.1 λ_ h=>List.mem_append_left _ h);have h2:(λt=>fq (xN [p] t) (xN m t))=pd m p:=funext λt=>by rw[<-y.out];exact iu p m t
   rwa[h2]at N)
  (λt v k=>un (iz U.out R.out.2.2 k))
  (λW' x T=>by
   have N:=XX (some ⟨C.heap.size,0,none⟩) A 1 c (C.heap.size+1) w.heap.size [p] m x W' ((J.ext T).cell 0) ((I.ext T).cell 0) (K.ext T) (F.ext T)
   rwa[show fq (xN [p] x) (xN m x)=pd m p x by rw[<-y.out];exact iu p m x]at N)
 have V:=zc λM out (h:nj (pd m p) M out)=>show xY m p M out by
  unfold xY;rw[Aq U.out,Aq R.out];exact h.tells λt v k=>iz U.out R.out.2.2 k
 clear O F K B;go_wp2_with fail;refine hT.mono ?_;rintro e w4 ⟨M,out,s,c4,HR,rfl,d,j⟩;clear hT;go_wp2_with fail;refine AP (v:=.tuple #[.slice s out.length c4,.int .i64 M]) (by simp[results,Tryz.results164]) rfl ?_;exact⟨M,out,s,c4,zc (V.out M out HR.out),rfl,d.since H.size,za H j⟩
