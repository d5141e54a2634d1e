import Derived.Test.YtjcimdpldlamfaaGreatDoorBd4bbf09d4c0
namespace Go.Proofs.YtjcimdpldlamfaaGreatDoor
set_option maxRecDepth 100000
set_option maxHeartbeats 4000000
open Go.RowKit
theorem uc(A x:Option Addr)(c X:Nat)(g:zf)(w:World)(W:zv w A c x X g) :
  Calls Tryz.prog 78 #[gV A c x X g] w λe D=>e=.returned (.int .i64 (zz g))/\Below w.heap.size w D:=by
 have m1:g.lives.length<=9223372036854775807:=Nat.le_trans W.lc W.cm;have m2:g.edges.length<=9223372036854775807:=Nat.le_trans W.lc' W.cm'
 cases N:vQ g.h 1 100
 case false=>
  go_enter Tryz.func78,Tryz.ntmps78
  go_wp2_with (go_at_call 82;refine(xh _ _ _ _).mono ?_;rintro e D ⟨rfl,rfl⟩);go_ret;exact⟨zC (eY N).symm,by go_grown⟩
 have I1:=zc N
 by_cases h2:12<g.lives.length
 ·go_enter Tryz.func78,Tryz.ntmps78
  go_wp2_with (go_at_call 82;refine(xh _ _ _ _).mono ?_;rintro e D ⟨rfl,rfl⟩);go_ret;exact⟨zC (sM I1.out (by omega)).symm,by go_grown⟩
 by_cases h3:30<g.edges.length
 ·go_enter Tryz.func78,Tryz.ntmps78
  go_wp2_with (go_at_call 82;refine(xh _ _ _ _).mono ?_;rintro e D ⟨rfl,rfl⟩);go_ret;exact⟨zC (sM I1.out (by omega)).symm,by go_grown⟩
 obtain⟨b,off,Z⟩:=W.lives
 go_enter Tryz.func78,Tryz.ntmps78
 go_wp2_with (go_at_call 82;refine(xh _ _ _ _).mono ?_;rintro e D ⟨rfl,rfl⟩)
 go_loopw [3] (λv wr=>∃k:Nat,k<=g.lives.length/\v=.int .i64 k/\Hid ((g.lives.drop k).all (vY g.h)=g.lives.all (vY g.h))/\Below w.heap.size w wr/\zj wr w.heap.size 68 (gC A c x X g))
  (λv _=>g.lives.length-(intOf v).toNat)
 case atStart=>exact⟨0,Nat.zero_le _,rfl,zc rfl,by go_grown,zj.new _ _ _⟩
 clear N;obtain⟨k,hk,rfl,HI,d,S⟩:=hrel;obtain⟨b1,b2,b3⟩:=S.facts
 by_cases Q0:k<g.lives.length
 ·obtain⟨y,V⟩:=zl Q0
  obtain⟨rfl,M0,⟨⟨s,u⟩,_⟩⟩:=Z k y V;have y0:=s.now d;have y1:=u.now d;have m:=xj V;have G:Hid ((y::g.lives.drop (k+1)).all (vY g.h)=g.lives.all (vY g.h)):=by rw[<-m];exact HI
  clear Z m V HI s u
  by_cases U:0<=y.f/\y.f<y.t/\y.t<=g.h
  ·obtain⟨k1,k2,k3⟩:=U
   go_wp2;go_roundw
   case rel=>exact⟨k+1,by omega,by go_num,zc ((jA (fA ⟨k1,k2,k3⟩)).symm.trans G.out),ze d _,S.alloc _⟩
   case measure=>simp[intOf];omega
  go_wp2
  all_goals go_ret
  all_goals exact⟨zC (kw I1.out (by omega) (G.out.symm.trans (jz (im (by omega))))).symm,ze d _⟩
 have P:g.lives.all (vY g.h)=true:=by rw[<-HI.out,vg (by omega)];rfl
 have e0:=qO I1.out (by omega) P;have E0:=zc e0;clear e0 P HI Z;obtain⟨b',r,hE⟩:=W.edges;obtain⟨wo,rfl⟩:∃wo:World,wo=wr:=⟨_,rfl⟩;go_wp2
 go_loopw [5] (λv wr=>∃k:Nat,k<=g.edges.length/\v=.int .i64 k/\Hid (yI g.h g.lives.length (g.edges.drop k)=yI g.h g.lives.length g.edges)/\Below w.heap.size w wr/\zj wr w.heap.size 68 (gC A c x X g))
  (λv _=>g.edges.length-(intOf v).toNat)
 case atStart=>exact⟨0,Nat.zero_le _,rfl,zc rfl,d,S⟩
 clear b1 b2 b3;obtain⟨k',C1,rfl,Q,C,O⟩:=hrel;obtain⟨b1,b2,b3⟩:=O.facts
 by_cases o:k'<g.edges.length
 ·obtain⟨y,V⟩:=zl o
  obtain⟨rfl,M0,⟨⟨s,u,L,cl,x2,O0,P0,Z⟩,_⟩⟩:=hE k' y V;have y0:=s.now C;have y1:=u.now C;have y2:=x2.now C;have m:=xj V;have G:Hid (yI g.h g.lives.length (y::g.edges.drop (k'+1))=yI g.h g.lives.length g.edges):=by rw[<-m];exact Q
  clear hE m V Q s u x2;have E1:y.legs.length<=9223372036854775807:=Nat.le_trans O0 P0;have Y:∀e:Int,yU g.h g.lives.length y=e->¬e=0->Hid (zz g=e):=λe N h2=>zc (by rw[E0.out,<-G.out,jO (by rw[N];exact h2),N]);have H:=zc Y;clear Y
  cases ha:vQ y.a 0 ((g.lives.length:Int)-1)
  case false=>
   have F:=zc (H.out 4 (TC ha) (by decide));go_wp2_with (go_at_call 82;refine(xh _ _ _ _).mono ?_;rintro e D ⟨rfl,rfl⟩);go_ret;exact⟨zC F.out.symm,ze C _⟩
  cases K:vQ y.b 0 ((g.lives.length:Int)-1)
  case false=>
   have F:=zc (H.out 4 (TD K) (by decide));go_wp2_with (go_at_call 82;refine(xh _ _ _ _).mono ?_;rintro e D ⟨rfl,rfl⟩);go_ret;exact⟨zC F.out.symm,ze C _⟩
  by_cases h6:6<y.legs.length
  ·have F:=zc (H.out 2 (TB ha K h6) (by decide))
   go_wp2_with (go_at_call 82;refine(xh _ _ _ _).mono ?_;rintro e D ⟨rfl,rfl⟩);go_ret;exact⟨zC F.out.symm,ze C _⟩
  have HE:=zc (TE (h:=g.h) ha K h6);go_wp2_with (go_at_call 82;refine(xh _ _ _ _).mono ?_;rintro e D ⟨rfl,rfl⟩);clear ha K b1 b2 b3 y0 y1 y2;obtain⟨wp,rfl⟩:∃wp:World,wp=wr:=⟨_,rfl⟩;have hp:=ze C (Obj.cells #[Value.int IntKind.i64 y.a,Value.int IntKind.i64 y.b,Value.slice L y.legs.length cl] 97);obtain⟨bl,ol,J⟩:=Z
  go_loopw [7] (λv wr=>∃k:Nat,k<=y.legs.length/\v=.int .i64 k/\Hid (yB g.h (oT y.legs k) (y.legs.drop k)=yB g.h none y.legs)/\Below w.heap.size w wr/\zj wr w.heap.size 68 (gC A c (some { block:=b',off:=r }) X g)/\zj wr wp.heap.size 97 #[Value.int IntKind.i64 y.a,Value.int IntKind.i64 y.b,Value.slice L y.legs.length cl])
   (λv _=>y.legs.length-(intOf v).toNat)
  case atStart=>exact⟨0,Nat.zero_le _,rfl,zc rfl,hp,O.alloc _,zj.new _ _ _⟩
  obtain⟨j,hj,rfl,HJ,B,I,T⟩:=hrel;obtain⟨b1,b2,b3⟩:=I.facts;obtain⟨d1,d2,d3⟩:=T.facts
  by_cases p:j<y.legs.length
  ·obtain⟨z,hz⟩:=zl p
   obtain⟨rfl,N0,⟨⟨z0,z1,z2,z3⟩,_⟩⟩:=J j z hz;have c0:=z0.now B;have c1:=z1.now B;have c2:=z2.now B;have c3:=z3.now B;have n:=xj hz;have R:Hid (yB g.h (oT y.legs j) (z::y.legs.drop (j+1))=yB g.h none y.legs):=by rw[<-n];exact HJ
   have HZ:=zc hz;clear n hz HJ z0 z1 z2 z3;have M:∀e:Int,yB g.h (oT y.legs j) (z::y.legs.drop (j+1))=e->¬e=0->Hid (zz g=e):=λe N h2=>H.out e (by rw[HE.out,<-R.out,N]) h2;have E:=zc M;clear M
   cases ht:vQ z.time 1 50
   case false=>
    have F:=zc (E.out 1 (uO (la (by rw[Xp]at ht;omega))) (by decide));go_wp2_with (go_at_call 82;refine(xh _ _ _ _).mono ?_;rintro e D ⟨rfl,rfl⟩)
    all_goals go_ret
    all_goals exact⟨zC F.out.symm,ze B _⟩
   cases hc:vQ z.cost 0 1000
   case false=>
    have F:=zc (E.out 1 (uO (la (by rw[Xp]at hc;omega))) (by decide));go_wp2_with (go_at_call 82;refine(xh _ _ _ _).mono ?_;rintro e D ⟨rfl,rfl⟩)
    all_goals go_ret
    all_goals exact⟨zC F.out.symm,ze B _⟩
   by_cases U:0<=z.f/\z.f<z.t/\z.t<=g.h
   case neg=>
    have F:=zc (E.out 1 (uO (la (by omega))) (by decide));go_wp2_with (go_at_call 82;refine(xh _ _ _ _).mono ?_;rintro e D ⟨rfl,rfl⟩)
    all_goals go_ret
    all_goals exact⟨zC F.out.symm,ze B _⟩
   have HK:=zc (VK (l:=z) (h:=g.h) (by rw[sO]at ht hc;omega));obtain⟨k1,k2,k3⟩:=U
   by_cases B1:j<=0
   ·have w0:decide (0<j)=false:=by simp;omega
    clear J;go_wp2_with (go_at_call 82;refine(xh _ _ _ _).mono ?_;rintro e D ⟨rfl,rfl⟩)
    go_quiet (fail)
    go_wp2;go_roundw
    case rel=>
     obtain rfl:j=0:=by omega
     refine⟨1,by omega,by go_num,zc ?_,zo (ze B _) _,(I.alloc _).drewN _,(T.alloc _).drewN _⟩;rw[<-R.out,vS HZ.out];exact(rB HK.out).symm
    case measure=>simp[intOf];omega
   obtain⟨i,rfl⟩:∃i,j=i+1:=⟨j-1,by omega⟩;obtain⟨q,hq⟩:=zl (show i<y.legs.length by omega);obtain⟨_,_,⟨⟨q0,q1,q2,q3⟩,_⟩⟩:=J i q hq;have HQ:=zc hq;have v0:=q1.now B;have b0:bl<wr.heap.size:=Nat.lt_of_lt_of_le N0 B.size;clear J hq q0 q1 q2 q3;have A1:(0:Int)<(i:Int)+1:=by omega
   by_cases D1:q.t<=z.f
   ·go_wp2_with (go_at_call 82;refine(xh _ _ _ _).mono ?_;rintro e D ⟨rfl,rfl⟩)
    go_quiet (fail)
    go_wp2;go_roundw
    case rel=>
     refine⟨i+1+1,by omega,by go_num,zc ?_,zo (ze B _) _,(I.alloc _).drewN _,(T.alloc _).drewN _⟩;rw[<-R.out,vS HZ.out,vS HQ.out,sR HK.out (by omega)]
    case measure=>simp[intOf];omega
   have F:=zc (E.out 5 (by rw[vS HQ.out];exact sQ HK.out (by omega)) (by decide));go_wp2_with (go_at_call 82;refine(xh _ _ _ _).mono ?_;rintro e D ⟨rfl,rfl⟩)
   go_quiet (fail)
   go_wp2;go_ret;exact⟨zC F.out.symm,zo (ze B _) _⟩
  go_wp2;go_roundw
  case rel=>
   refine⟨k'+1,by omega,by go_num,zc ((kr ?_).symm.trans G.out),B,I⟩;rw[HE.out,<-HJ.out,vg (by omega)]
   cases j <;> rfl
  case measure=>simp[intOf];omega
 go_wp2;go_ret;exact⟨zC (by rw[E0.out,<-Q.out,vg (by omega)];rfl),C⟩
end Go.Proofs.YtjcimdpldlamfaaGreatDoor
