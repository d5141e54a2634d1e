import Derived.Test.YtjcimdpldlamfaaGreatDoorBda3d75061b5
import Derived.Test.YtjcimdpldlamfaaGreatDoorBd31a2894650
import Derived.Test.YtjcimdpldlamfaaGreatDoorBdcb20961c57
namespace Go.Proofs.YtjcimdpldlamfaaGreatDoor
set_option maxRecDepth 100000
set_option maxHeartbeats 8000000
open Go.RowKit
def Uy(g:zf)(wt:zR->Int)(v s:Int)(w:World)(e:Ending)(w':World):Prop:=
 ∃(tb b1 b2 n t:Nat) (B:qI Int) (O:qI tB),e=.returned (.pointer (some ⟨tb,0,none⟩))/\Hid (zQ g wt v s t 0 false 0 B O/\g.h<=t)/\zj w' tb 198 #[.map (some b1),.map (some b2)] /\
  zN TT w' b1 n B/\zN XT w' b2 n O/\Below w.heap.size w w'
theorem Qa(kf:Nat)(wt:zR->Int)(A Z:Option Addr)(c j:Nat)(g:zf)(v s:Nat)(w:World)(hent:Enters Tryz.prog kf)(q:zv w A c Z j g)(R:zx g)(hw:py g wt)(o0:(v:Int)<g.lives.length)(O1:(s:Int)<g.h)
  (Y:∀l w,Calls Tryz.prog kf #[tK l] w λe w'=>e=.returned (.int .i64 (wt l))/\Below w.heap.size w w') :
  Calls Tryz.prog 141 #[gV A c Z j g,.int .i64 (v:Int),.int .i64 (s:Int),.func (.func kf) #[] #[]] w (Uy g wt v s w):=by
 have m1:g.lives.length<=9223372036854775807:=Ai q.lc q.cm;have m2:g.edges.length<=9223372036854775807:=Ai q.lc' q.cm';have D2:=R.h1;have c1:=R.nl;have M2:=R.ne;have N1:=@run_makeMap Tryz.prog;have HW:=zc hw;have HC:=zc Y;clear hw Y
 go_enter Tryz.func141,Tryz.ntmps141
 go_wp2_with fail;have M:=tZ.made (gc:=gC A c Z j g) w;refine(xM _ _ _ _ g v s _ (q.ext (by go_grown)) (by omega) o0).mono ?_;rintro e w1 ⟨rfl,X⟩;have M:=M.ext X;clear X N1;obtain⟨g0,z⟩:∃k,k=w.heap.size:=⟨_,rfl⟩;obtain⟨b1,X⟩:∃k,k=w.heap.size+1:=⟨_,rfl⟩;obtain⟨W,e0⟩:∃k,k=w.heap.size+1+1:=⟨_,rfl⟩;obtain⟨tb,l0⟩:∃k,k=w.heap.size+1+1+1:=⟨_,rfl⟩;have l1:w.heap.size<=b1:=by omega
 have l2:w.heap.size<=W:=by omega
 have l3:b1≠W:=by omega
 rw[<-l0,<-e0,<-X]at M⊢;rw[show tZ w.heap.size tb b1 W=tZ g0 tb b1 W by rw[z]]at M;have r1:=zc z;clear l0 e0 X;rw[<-z];clear z;obtain⟨t1,t2,t3⟩:=M.tab.facts
 go_upto_if 26 with fail
 go_cut [] from 26 to 33 (λwx=>∃(n:Nat) (B:qI Int) (O:qI tB),n<=1/\Hid (zQ g wt v s s 0 false 0 B O)/\tZ g0 tb b1 W n (gC A c Z j g) w B O wx)
 case first=>
  cases r:zn g v s
  case false=>
   have Q:=zc (Xc HW.out r);clear r;go_wp2_with fail;go_meet;exact⟨0,_,_,by omega,zc (by simpa using Q.out),M⟩
  case true=>
   have Q:=zc (Vj R HW.out ⟨by omega,o0⟩ ⟨by omega,O1⟩ r);clear r;go_wp2_with (at_mapUpdate;refine gY rfl (.tmp 30) (.tmp 33) _ 195 rfl _ Tryz.underlying195 TT b1 0 (λ_=>none) rfl M.best (by decide) (v,s) (by unfold Yw;omega) 0 rfl rfl ?_;intro w2 H1 M1);go_meet;exact⟨1,_,_,by omega,zc (by simpa using Q.out),M.turned M1 H1 (by omega) l3 l1⟩
 clear M t1 t2 t3;obtain⟨n0,B,O,K2,Q,M⟩:=hcut;go_wp2_with fail
 go_loopw [10] (λx wr=>∃(t n:Nat) (B:qI Int) (O:qI tB),s<=t/\(t:Int)<=g.h/\x=.int .i64 t/\n<=t*1000+1/\Hid (zQ g wt v s t 0 false 0 B O)/\tZ g0 tb b1 W n (gC A c Z j g) w B O wr) (λx _=>g.h.toNat-(intOf x).toNat)
 case atStart=>exact⟨s,n0,B,O,Ay _,by omega,rfl,by omega,Q,M⟩
 clear Q M;obtain⟨t,n,B,O,N2,P0,rfl,hn,Q,M⟩:=hrel;obtain⟨t1,t2,t3⟩:=M.tab.facts;obtain⟨g1,g2,g3⟩:=M.gr.facts
 by_cases G2:(t:Int)<g.h
 case neg=>
  have HE:Hid (zQ g wt v s t 0 false 0 B O/\g.h<=t):=zc ⟨Q.out,by omega⟩;go_wp2_with fail;go_ret;exact⟨tb,b1,W,n,t,B,O,rfl,HE,M.tab,M.best,M.orig,M.bel⟩
 have Q2:IntKind.i64.wrap ((t:Int)+1)=((t+1:Nat):Int):=by rw[AQ _ (by omega)];simp
 go_wp2_with fail;clear t1 t2 t3 g1 g2 g3
 go_loopg [44] g.lives.length (λgk x wr=>∃(u n:Nat) (B:qI Int) (O:qI tB),u+gk=g.lives.length/\x=.int .i64 u/\n<=t*1000+u*40+1/\Hid (zQ g wt v s t u false 0 B O)/\tZ g0 tb b1 W n (gC A c Z j g) w B O wr)
 case atStart=>exact⟨0,n,B,O,by omega,rfl,by omega,Q,M⟩
 clear Q M hn;obtain⟨u,n,B,O,P2,rfl,hn,Q,M⟩:=hrel;obtain⟨t1,t2,t3⟩:=M.tab.facts;obtain⟨g1,g2,g3⟩:=M.gr.facts
 by_cases L1:u<g.lives.length
 case neg=>
  have N:Hid (zQ g wt v s (t+1) 0 false 0 B O):=zc (by
   have h:=Q.out;rw[show u=g.lives.length by omega]at h;exact h.nextT R)
  go_wp2_with fail;go_roundw
  case rel=>exact⟨t+1,n,B,O,by omega,by omega,by go_num,by omega,N,M⟩
  case measure=>simp[intOf];omega
 have E:=M.look (p:=(u,t)) (kx:=(u:Int)) (kt:=(t:Int)) (by unfold Yw;omega) rfl rfl
 cases hB:B (u,t)with
 |none=>
  rw[hB]at E;simp only[Option.map_none,Option.getD_none,Option.isSome_none]at E;have N:=zc (Q.out.skip R HW.out hB);clear hB;go_wp2_with fail
  go_roundg (gk-1)
  case rel=>exact⟨u+1,n,B,O,by omega,by go_num,by omega,N,M⟩
  case measure=>omega
 |some m=>
  rw[hB]at E;simp only[Option.map_some,Option.getD_some,Option.isSome_some,TT]at E;have HB:=zc hB;obtain⟨H2,I2⟩:=Q.out.small R hB;clear hB;go_upto_region 12 with fail
  go_cut [44,71] from 44 to 125 (λx y wx=>x=.int .i64 u/\y=.bool (decide ((t:Int)+1<g.h) && zn g u ((t:Int)+1))/\tZ g0 tb b1 W n (gC A c Z j g) w B O wx)
  case first=>
   by_cases P0:(t:Int)+1<g.h
   case neg=>
    have hd:decide ((t:Int)+1<g.h)=false:=by simpa using P0
    have HD:=zc hd;have J1:decide (((t+1:Nat):Int)<g.h)=false:=by simp;omega
    clear E hd;go_wp2_with fail;go_meet;exact⟨rfl,by rw[HD.out];rfl,M⟩
   have hd:decide ((t:Int)+1<g.h)=true:=by simpa using P0
   have HD:=zc hd;have J1:decide (((t+1:Nat):Int)<g.h)=true:=by simp;omega
   clear E hd;go_wp2_with fail;refine(xM _ _ _ _ g u ((t+1:Nat):Int) _ (q.ext M.bel) (by omega) (by omega)).mono ?_;rintro e w3 ⟨rfl,P⟩;have M:=M.ext P;clear P;go_wp2_with fail;go_meet;exact⟨rfl,by rw[HD.out];simp,M⟩
  clear M t1 t2 t3 g1 g2 g3 E;obtain⟨rfl,rfl,M⟩:=hcut;obtain⟨bb,N0⟩:∃bb,(decide ((t:Int)+1<g.h) && zn g u ((t:Int)+1))=bb:=⟨_,rfl⟩;rw[N0];have G0:=zc N0;clear N0
  go_upto_if 71 with fail
  go_cut [44] from 44 to 125 (λx wx=>∃(n':Nat) (B':qI Int) (O':qI tB),x=.int .i64 u/\n'<=n+1/\Hid (zQ g wt v s t u true 0 B' O'/\B' (u,t)=some m)/\tZ g0 tb b1 W n' (gC A c Z j g) w B' O' wx)
  case first=>
   cases bb
   case false=>
    have N:Hid (zQ g wt v s t u true 0 B O/\B (u,t)=some m):=zc ⟨Q.out.wait (λk1 k2=>by
     have:=G0.out;rw[k2]at this;simp at this;omega),HB.out⟩
    go_wp2_with fail;go_meet;exact⟨n,B,O,rfl,by omega,N,M⟩
   case true=>
    have N:Hid (zQ g wt v s t u true 0 (yS B B (u,t+1) m m) (yS B O (u,t+1) m ⟨u,t,0,0,false⟩)/\yS B B (u,t+1) m m (u,t)=some m):=zc (by
     have:=G0.out;simp only[Bool.and_eq_true,decide_eq_true_eq]at this;exact Q.out.putWait HB.out L1 this.1 this.2)
    obtain⟨t1,t2,t3⟩:=M.tab.facts;go_wp2_with fail;refine(M.less_any l1 l2 l3 (by omega) (p:=(u,t+1)) (m:=m) (o:=⟨u,t,0,0,false⟩) (by unfold Yw;omega) (by simp only[zq];omega) rfl rfl).mono ?_;rintro e w3 ⟨rfl,M3,_⟩;go_wp2_with fail;go_meet;exact⟨n+1,_,_,rfl,by omega,N,M3⟩
  clear M Q HB G0;obtain⟨n',B',O',rfl,J2,N,M⟩:=hcut;obtain⟨g1,g2,g3⟩:=M.gr.facts;go_wp2_with fail;clear g1 g2 g3
  go_loopw [86] (λx wr=>∃(i n2:Nat) (V:qI Int) (d:qI tB),i<=g.edges.length/\x=.int .i64 i/\n2<=n'+i/\Hid (zQ g wt v s t u true i V d/\V (u,t)=some m)/\tZ g0 tb b1 W n2 (gC A c Z j g) w V d wr) (λx _=>g.edges.length-(intOf x).toNat)
  case atStart=>exact⟨0,n',B',O',by omega,rfl,by omega,N,M⟩
  clear N M;obtain⟨i,n2,V,d,hi,rfl,L2,N,M⟩:=hrel;obtain⟨t1,t2,t3⟩:=M.tab.facts;obtain⟨g1,g2,g3⟩:=M.gr.facts
  by_cases k0:i<g.edges.length
  case neg=>
   have z0:Hid (zQ g wt v s t (u+1) false 0 V d):=zc (by
    have h:=N.out.1;rw[show i=g.edges.length by omega]at h;exact h.nextV)
   go_wp2_with fail
   go_roundg (gk-1)
   case rel=>exact⟨u+1,n2,V,d,by omega,by go_num,by omega,z0,M⟩
   case measure=>omega
  obtain⟨be,oe,hE⟩:=q.edges;obtain⟨y,hy⟩:=zl k0;obtain⟨rfl,C2,⟨⟨x0,x1,L,cl,x2,E2,F2,hL⟩,_⟩⟩:=hE i y hy;have y0:=x0.now M.bel;have y1:=x1.now M.bel;have y2:=x2.now M.bel;have U:=R.edges y (Ad hy);have HY:=zc hy;have j0:y.legs.length<=maxLen:=by have:=U.six;unfold maxLen;omega
  have b0:=U.b0;have z1:=U.b1;have m0:zM (t:Int):=by unfold zM;omega
  clear hE hy x0 x1 x2
  cases ha:zF g y t with
  |none=>
   have HA:=zc ha;have HE:Hid (zQ g wt v s t u true (i+1) V d/\V (u,t)=some m):=zc ⟨N.out.1.edge HY.out (λ_ l te h=>by rw[HA.out]at h;simp at h),N.out.2⟩;clear ha;go_wp2_with fail;have M:=M.alloc (Obj.cells #[.int .i64 y.a,.int .i64 y.b,.slice L y.legs.length cl] 97);refine(ny _ (q.ext M.bel) R U (hL.ext yY.stable M.bel) j0 m0 HA.out).mono ?_;rintro e w3 ⟨rfl,P⟩;have M:=M.ext P
   clear P;go_wp2_with fail;have M:=M.alloc (Obj.cells #[.int .i64 0,.int .i64 0,.int .i64 0,.int .i64 0] 100);go_roundw
   case rel=>exact⟨i+1,n2,V,d,by omega,by go_num,by omega,HE,M⟩
   case measure=>simp[intOf];omega
  |some pr=>
   obtain⟨l,te⟩:=pr;have HA:=zc ha;have K1:=zT R U ha;have P1:=HW.out y (Ad HY.out) l (yh ha).1;clear ha;go_wp2_with fail;have BE:=zj.new wr 97 #[.int .i64 y.a,.int .i64 y.b,.slice L y.legs.length cl];have M:=M.alloc (Obj.cells #[.int .i64 y.a,.int .i64 y.b,.slice L y.legs.length cl] 97);refine(rd _ (q.ext M.bel) R U (hL.ext yY.stable M.bel) j0 m0 HA.out).mono ?_
   rintro e w3 ⟨rfl,P⟩;have M:=M.ext P;obtain⟨BE,q1,q2,q3⟩:=BE.go P;clear P t1 t2 t3 g1 g2 g3 y0 y1 y2
   by_cases T:y.a=(u:Int)
   case neg=>
    have hd:(y.a== (u:Int))=false:=by simpa using T
    have HE:Hid (zQ g wt v s t u true (i+1) V d/\V (u,t)=some m):=zc ⟨N.out.1.edge HY.out (λh=>absurd h T),N.out.2⟩;clear T;go_wp2_with fail;have M:=M.alloc (Obj.cells #[.int .i64 l.f,.int .i64 l.t,.int .i64 l.time,.int .i64 l.cost] 100);go_roundw
    case rel=>exact⟨i+1,n2,V,d,by omega,by go_num,by omega,HE,M⟩
    case measure=>simp[intOf];omega
   have hd:(y.a== (u:Int))=true:=by simpa using T
   have HP:=zc (N.out.1.putEdge R HW.out N.out.2 HY.out T HA.out);obtain⟨Y1,Z1⟩:=N.out.1.small R N.out.2;clear T;obtain⟨ql,O0⟩:∃ql,wt l=ql:=⟨_,rfl⟩;rw[O0]at P1 HP;have A1:=zc O0;clear O0;have Q1:IntKind.i64.wrap (m+ql)=m+ql:=AQ _ (by omega);go_wp2_with fail;have BL:=zj.new w3 100 #[.int .i64 l.f,.int .i64 l.t,.int .i64 l.time,.int .i64 l.cost];have BE:=BE.alloc (Obj.cells #[.int .i64 l.f,.int .i64 l.t,.int .i64 l.time,.int .i64 l.cost] 100)
   have M:=M.alloc (Obj.cells #[.int .i64 l.f,.int .i64 l.t,.int .i64 l.time,.int .i64 l.cost] 100);obtain⟨gl,i0⟩:∃gl,gl=w3.heap.size:=⟨_,rfl⟩;obtain⟨ge,h0⟩:∃ge,ge=wr.heap.size:=⟨_,rfl⟩;rw[<-i0]at BL⊢;rw[<-h0]at BE⊢;obtain⟨wa,p0⟩:∃wa:World,wa=w3.alloc (Obj.cells #[.int .i64 l.f,.int .i64 l.t,.int .i64 l.time,.int .i64 l.cost] 100):=⟨_,rfl⟩;rw[<-p0]at BL BE M⊢;clear i0 h0 p0 q1 q2 q3 hd
   obtain⟨S,D⟩:∃S:World->Prop,Hid (S=λw'=>w'.cell? ⟨ge,1,none⟩=some (.int .i64 y.b)/\w'.cell? ⟨gl,0,none⟩=some (.int .i64 l.f)/\w'.cell? ⟨gl,1,none⟩=some (.int .i64 l.t)/\w'.cell? ⟨gl,2,none⟩=some (.int .i64 l.time)/\w'.cell? ⟨gl,3,none⟩=some (.int .i64 l.cost)):=⟨_,zc rfl⟩;have M0:∀wz,Below wa.heap.size wa wz->S wz:=λwz hb=>by
    rw[D.out];exact⟨zD hb (by rw[BE.cell];rfl),zD hb (by rw[BL.cell];rfl),zD hb (by rw[BL.cell];rfl),zD hb (by rw[BL.cell];rfl),zD hb (by rw[BL.cell];rfl)⟩
   have A2:S wa.drew:=M0 _ (zi (Ae _ _));have B1:=zc M0;clear M0;unfold Enters at hent;refine zV.begin (S:=S) 17 (by kernel_rfl) ?_;refine tN 0 ?_ ?_ ?_;rotate_left
   ·intro w C;rw[D.out]at C;obtain⟨F,G,H,I,J⟩:=C;go_simp;try with_reducible rfl
   simp only[pS];refine tN 1 ?_ ?_ ?_;rotate_left
   ·intro w C;rw[D.out]at C;obtain⟨F,G,H,I,J⟩:=C;go_simp;try with_reducible rfl
   simp only[pS];refine tN 2 ?_ ?_ ?_;rotate_left
   ·intro w C;rw[D.out]at C;obtain⟨F,G,H,I,J⟩:=C;go_simp;try with_reducible rfl
   simp only[pS];refine tN 3 ?_ ?_ ?_;rotate_left
   ·intro w C;rw[D.out]at C;obtain⟨F,G,H,I,J⟩:=C;go_simp;try with_reducible rfl
   simp only[pS];refine tN 4 ?_ ?_ ?_;rotate_left
   ·intro w C;rw[D.out]at C;obtain⟨F,G,H,I,J⟩:=C;go_simp;try with_reducible rfl
   simp only[pS];refine tN 5 ?_ ?_ ?_;rotate_left
   ·intro w C;rw[D.out]at C;obtain⟨F,G,H,I,J⟩:=C;go_simp;try with_reducible rfl
   simp only[pS];refine tN 6 ?_ ?_ ?_;rotate_left
   ·intro w C;rw[D.out]at C;obtain⟨F,G,H,I,J⟩:=C;go_simp;try with_reducible rfl
   simp only[pS];refine tN 7 ?_ ?_ ?_;rotate_left
   ·intro w C;rw[D.out]at C;obtain⟨F,G,H,I,J⟩:=C;go_simp;try with_reducible rfl
   simp only[pS];refine tN 10 ?_ ?_ ?_;rotate_left
   ·intro w C;rw[D.out]at C;obtain⟨F,G,H,I,J⟩:=C;go_simp;try with_reducible rfl
   simp only[pS];refine tN 11 ?_ ?_ ?_;rotate_left
   ·intro w C;rw[D.out]at C;obtain⟨F,G,H,I,J⟩:=C;go_simp;try with_reducible rfl
   simp only[pS];refine tN 12 ?_ ?_ ?_;rotate_left
   ·intro w C;rw[D.out]at C;obtain⟨F,G,H,I,J⟩:=C;go_simp;try with_reducible rfl
   simp only[pS];refine tN 13 ?_ ?_ ?_;rotate_left
   ·intro w C;rw[D.out]at C;obtain⟨F,G,H,I,J⟩:=C;go_simp;try with_reducible rfl
   simp only[pS];refine tN 14 ?_ ?_ ?_;rotate_left
   ·intro w C;rw[D.out]at C;obtain⟨F,G,H,I,J⟩:=C;go_simp;try with_reducible rfl
   simp only[pS];refine tN 15 ?_ ?_ ?_;rotate_left
   ·intro w C;rw[D.out]at C;obtain⟨F,G,H,I,J⟩:=C;go_simp;try with_reducible rfl
   simp only[pS];refine tN 16 ?_ ?_ ?_;rotate_left
   ·intro w C;rw[D.out]at C;obtain⟨F,G,H,I,J⟩:=C;go_simp;try with_reducible rfl
   simp only[pS];refine zV.one (i:=8) rfl (by kernel_rfl) λK hK=>?_;go_wp2_with (first|(refine(HC.out l _).mono ?_;rw[A1.out];rintro e w5 ⟨rfl,I1⟩;have f0:Below wa.heap.size wa w5:=za (zi (Ae _ _)) I1));have G1:S w5:=B1.out _ f0;refine hK.out _ _ ⟨λ_=>G1,?_⟩;clear hK K
   try simp only[pS]
   refine tN 9 ?_ ?_ ?_;rotate_left
   ·intro w C;rw[D.out]at C;obtain⟨F,G,H,I,J⟩:=C;go_simp;try with_reducible rfl
   simp only[pS];refine zV.one (i:=17) rfl (by kernel_rfl) λK hK=>?_;have M5:=M.ext f0;go_wp2_with (first|(refine(M5.less_any l1 l2 l3 (by omega) (p:=(y.b.toNat,te.toNat)) (m:=m+ql) (o:=⟨u,t,i,t,true⟩) (by unfold Yw;omega) (by simp only[zq];omega) (by simp only;omega) (by simp only;omega)).mono ?_;rintro e w6 ⟨rfl,M6,_⟩));refine hK.out _ _ ⟨λh=>by omega,?_⟩;clear hK K;refine zV.done (by kernel_rfl) ?_ _
   go_wp2_with fail;go_roundw
   case rel=>exact⟨i+1,n2+1,_,_,by omega,by go_num,by omega,HP,M6⟩
   case measure=>simp[intOf];omega
theorem RZ(C:Nat)(wt:zR->Int)(A D:Option Addr)(c E:Nat)(g:zf)(v s:Int)(w:World)(hent:Enters Tryz.prog C)(J:zv w A c D E g)(K:zx g)(L:py g wt)(H:0<=v)(I:v<g.lives.length)(F:0<=s)(G:s<g.h)
  (B:∀l w,Calls Tryz.prog C #[tK l] w λe M=>e=.returned (.int .i64 (wt l))/\Below w.heap.size w M) :
  Calls Tryz.prog 141 #[gV A c D E g,.int .i64 v,.int .i64 s,.func (.func C) #[] #[]] w (Uy g wt v s w):=by
 obtain⟨v,rfl⟩:=Int.eq_ofNat_of_zero_le H;obtain⟨s,rfl⟩:=Int.eq_ofNat_of_zero_le F;exact Qa C wt A D c E g v s w hent J K L I G B
set_option maxHeartbeats 4000000
theorem So(S b1 T n v:Nat)(B:qI Int)(A G:Option Addr)(c J:Nat)(g:zf)(w:World)(Q:zj w S 198 #[.map (some b1),.map (some T)])(P:zN TT w b1 n B)(X:1<=g.h)(Y:g.h<=100)(i:v<=1000) :
  Calls Tryz.prog 142 #[.pointer (some ⟨S,0,none⟩),gV A c G J g,.int .i64 (v:Int)] w λe d=>e=.returned (.tuple #[.int .i64 (yG (vT B) v g.h.toNat).1,.int .i64 (yG (vT B) v g.h.toNat).2])/\Below w.heap.size w d:=by
 go_enter Tryz.func142,Tryz.ntmps142
 go_wp2_with fail;have O:=Q.alloc (Obj.cells (gC A c G J g) 68);have N:=P.alloc (Obj.cells (gC A c G J g) 68);have K:Below w.heap.size w (w.alloc (Obj.cells (gC A c G J g) 68)):=by go_grown
 obtain⟨M,L⟩:∃M:World,M=w.alloc (Obj.cells (gC A c G J g) 68):=⟨_,rfl⟩;rw[<-L]at O N K⊢;clear L Q P
 go_loopw [8,9,15] (λb a x wr=>∃(k:Nat) (D E:Int),(k:Int)<=g.h/\x=.int .i64 k/\b=.int .i64 D/\a=.int .i64 E/\Hid (yG (vT B) v k=(D,E))/\wr=M) (λ_ _ x _=>g.h.toNat-(intOf x).toNat)
 case atStart=>exact⟨0,zq,0,by omega,rfl,rfl,rfl,zc rfl,rfl⟩
 obtain⟨k,D,E,f,rfl,rfl,rfl,H,rfl⟩:=hrel;have V:D<=zq:=by have:=lP (vT B) v k;rw[H.out]at this;exact this
 by_cases Z:(k:Int)<g.h
 case neg=>
  have U:Hid (yG (vT B) v g.h.toNat=(D,E)):=zc (by rw[show g.h.toNat=k by omega];exact H.out);go_wp2_with fail;go_ret2;exact⟨by rw[U.out];rfl,K⟩
 obtain⟨j,l,o⟩:=O.facts;have C:=N.look Tryz.underlying195 (nf _) (p:=(v,k)) (by unfold Yw;omega)
 cases F:B (v,k)with
 |none=>
  rw[F]at C;simp only[Option.map_none,Option.getD_none,Option.isSome_none]at C;have I:Hid (yG (vT B) v (k+1)=(D,E)):=zc (by rw[yG,H.out,kh F,Au (by simp only;omega)]);clear F;go_wp2_with fail;go_roundw
  case rel=>exact⟨k+1,D,E,by omega,by go_num,rfl,rfl,I,by trivial⟩
  case measure=>simp[intOf];omega
 |some m=>
  rw[F]at C;simp only[Option.map_some,Option.getD_some,Option.isSome_some,TT]at C
  by_cases R:m<D
  case pos=>
   have W:decide (m<D)=true:=by simpa using R
   have I:Hid (yG (vT B) v (k+1)=(m,(k:Int))):=zc (by rw[yG,H.out,qx F,Aq (by simp only;omega)]);clear F;go_wp2_with fail;go_roundw
   case rel=>exact⟨k+1,m,k,by omega,by go_num,rfl,rfl,I,by trivial⟩
   case measure=>simp[intOf];omega
  have W:decide (m<D)=false:=by simpa using R
  have I:Hid (yG (vT B) v (k+1)=(D,E)):=zc (by rw[yG,H.out,qx F,Au (by simp only;omega)]);clear F;go_wp2_with fail;go_roundw
  case rel=>exact⟨k+1,D,E,by omega,by go_num,rfl,rfl,I,by trivial⟩
  case measure=>simp[intOf];omega
theorem Wv(a:Nat)(wt:zR->Int)(A Y:Option Addr)(c Z:Nat)(g:zf)(v s:Int)(w:World)(hent:Enters Tryz.prog a)(i:zv w A c Y Z g)(hw:zx g->py g wt)
  (D:∀l w,Calls Tryz.prog a #[tK l] w λe w'=>e=.returned (.int .i64 (wt l))/\Below w.heap.size w w') :
  Calls Tryz.prog 111 #[gV A c Y Z g,.int .i64 v,.int .i64 s,.func (.func a) #[] #[]] w (tQ (yN g wt v s) (zm g v s) w):=by
 by_cases h0:zm g v s=0
 case neg=>
  have N:=zc h0;have hn:(zm g v s != 0)=true:=by simp[h0]
  clear h0 D
  go_enter Tryz.func111,Tryz.ntmps111
  go_wp2_with fail;refine(lW _ _ _ _ g v s _ (i.ext (by go_grown))).mono ?_;rintro e w1 ⟨Ao,co,rfl,j,C0,E⟩;go_wp2_with fail;go_ret2;exact⟨[],none,0,by unfold yN;rw[Au N.out],rfl,zU.nil,by simp,za (by go_grown) E⟩
 obtain⟨J,⟨V,W⟩,U,D0⟩:=uR h0;have N:=zc h0;have z:=J.h1;have y:=J.h0;have P0:=J.nl;have m1:g.lives.length<=9223372036854775807:=by omega
 have HC:=zc D;clear h0 D;obtain⟨i0,hi,F0,G0,I0⟩:=Xr qQ
 go_enter Tryz.func111,Tryz.ntmps111
 go_wp2_with fail;refine(lW _ _ _ _ g v s _ (i.ext (by go_grown))).mono ?_;rw[N.out];rintro e w1 ⟨Ao,co,rfl,j,C0,E⟩;obtain⟨d,c1,c2,c3⟩:=(zj.new w 68 (gC A c Y Z g)).go E;have H:Below w.heap.size w w1:=za (by go_grown) E;clear E;go_wp2_with fail;refine(RZ a wt _ _ _ _ g v s _ hent (i.ext H) J (hw J) V W U D0 HC.out).mono ?_;rintro e X ⟨tb,b1,b2,n,t,B,O,rfl,f,hT,hB,hO,K⟩
 obtain⟨d,c1,c2,c3⟩:=d.go K;have H:Below w.heap.size w X:=za H K;have P:Hid (uH g wt v s (vT B)):=zc (f.out.1.ends J ⟨V,W⟩ U f.out.2);clear K f hO;go_wp2_with fail;clear c1 c2
 go_loopw [13,35] (λo x wr=>∃(k:Nat) (F:List Int),k<=g.lives.length/\x=.int .i64 k/\Hid (F=(ox g (vT B)).take k)/\F.length<=12/\Own vi 1 wr X.heap.size 3 o F/\Below X.heap.size X wr) (λ_ x _=>g.lives.length-(intOf x).toNat)
 case atStart=>exact⟨0,[],AA _,rfl,zc (by simp),by simp,Own.nil,Ae _ _⟩
 obtain⟨k,F,hk,rfl,I,p0,C,G⟩:=hrel;have S:=za H G;obtain⟨f1,f2,f3⟩:=(d.ext G).facts;have R:=hT.ext G;have Q:=hB.ext G;have q0:=G.size
 by_cases A0:k<g.lives.length
 case pos=>
  have HN:Hid (F++[(yG (vT B) k g.h.toNat).1]=(ox g (vT B)).take (k+1)):=zc (by rw[I.out,AO,VH A0];rfl);have o0:F.length<=k:=by rw[I.out,AE];omega
  obtain⟨V0,c0,rfl⟩:=C.form;go_wp2_with fail;refine(So tb b1 b2 n k B A Y c Z g _ R Q y z (by omega)).mono ?_;obtain⟨q,hq⟩:∃q,yG (vT B) k g.h.toNat=q:=⟨_,rfl⟩;rw[hq]at HN⊢;obtain⟨q1,q2⟩:=q;clear hq;rintro e w3 ⟨rfl,L⟩;have C:=C.keep (λb cs h=>(zj.go h L).1);have G:=za G L;have J0:=G.size;clear L R Q f1 f2 f3;go_wp2_with (at_builtin;refine yf (enc:=vi) rfl (.tmp 45) (.tmp 47) 55 rfl X.heap.size 3 i0 _ 1 8 Tryz.underlying55 hi F0 G0 I0 rfl (by decide) _ F [q1] 1 rfl rfl C _ rfl w3.heap.size (by simp) rfl rfl rl (by omega) (by decide) J0 ?_;intro v' w8 M p O0)
  go_roundw
  case rel=>exact⟨k+1,F++[q1],by omega,by go_num,HN,by simp;omega,M,G.trans p⟩
  case measure=>simp[intOf];omega
 have HE:Hid (F=ox g (vT B)):=zc (by rw[I.out,AJ];rw[dx];omega);have T:∀x,x∈F->zM x:=λx hx=>by
  rw[HE.out]at hx;simp only[ox,AD,List.mem_range]at hx;obtain⟨u,_,rfl⟩:=hx;have h1:=lP (vT B) u g.h.toNat;have h2:0<=(yG (vT B) u g.h.toNat).1:=by
   rcases Int.lt_or_le (yG (vT B) u g.h.toNat).1 zq with h|h
   ·obtain⟨r,_,_,h3⟩:=gz h
    rw[<-h3];exact P.out.pos (hw J) _
   simp only[zq]at h;omega
  unfold zM;simp only[zq]at h1;omega
 obtain⟨Ar,cr,rfl,m⟩:=lX C T;go_wp2_with fail;go_ret2;rw[N.out];exact⟨F,Ar,cr,by unfold yN;rw[Aq N.out];exact⟨_,P.out,HE.out⟩,rfl,m,by unfold maxLen;omega,S⟩
theorem RQ(l:zR)(w:World):Calls Tryz.prog 112 #[tK l] w λe A=>e=.returned (.int .i64 (ul l))/\Below w.heap.size w A:=by
 go_enter Tryz.func112,Tryz.ntmps112
 go_wp2;go_ret;exact⟨rfl,by go_grown⟩
theorem PO(l:zR)(w:World):Calls Tryz.prog 113 #[tK l] w λe A=>e=.returned (.int .i64 (qu l))/\Below w.heap.size w A:=by
 go_enter Tryz.func113,Tryz.ntmps113
 go_wp2;go_ret;exact⟨rfl,by go_grown⟩
theorem YU:Enters Tryz.prog 112:=enters_of Tryz.func112 (by kernel_rfl) rfl
theorem Vd:Enters Tryz.prog 113:=enters_of Tryz.func113 (by kernel_rfl) rfl
theorem Tw(A B:Option Addr)(c C:Nat)(g:zf)(v s:Int)(w:World)(H:zv w A c B C g) :
  Calls Tryz.prog 66 #[gV A c B C g,.int .i64 v,.int .i64 s] w (tQ (yN g ul v s) (zm g v s) w):=by
 go_enter Tryz.func66,Tryz.ntmps66
 go_wp2_with fail;refine(Wv 112 ul _ _ _ _ g v s _ YU (H.ext (by go_grown)) ro RQ).mono ?_;rintro e L ⟨l,E,G,D,rfl,I,K,J⟩;have F:=zc D;clear D;go_wp2_with fail;go_ret2;exact⟨l,E,G,F.out,rfl,I,K,za (by go_grown) J⟩
theorem Vv(A B:Option Addr)(c C:Nat)(g:zf)(v s:Int)(w:World)(H:zv w A c B C g) :
  Calls Tryz.prog 68 #[gV A c B C g,.int .i64 v,.int .i64 s] w (tQ (yN g qu v s) (zm g v s) w):=by
 go_enter Tryz.func68,Tryz.ntmps68
 go_wp2_with fail;refine(Wv 113 qu _ _ _ _ g v s _ Vd (H.ext (by go_grown)) (λ_=>aD) PO).mono ?_;rintro e L ⟨l,E,G,D,rfl,I,K,J⟩;have F:=zc D;clear D;go_wp2_with fail;go_ret2;exact⟨l,E,G,F.out,rfl,I,K,za (by go_grown) J⟩
noncomputable def the(P:List Int->Prop):List Int:=Classical.epsilon P
theorem cO{P:List Int->Prop}{l:List Int}(h:P l)(u:∀a b,P a->P b->a=b):the P=l:=u _ _ (Classical.epsilon_spec ⟨l,h⟩) h
theorem Xo{p:Prop}[Decidable p]{P:List Int->Prop}(u:∀a b,P a->P b->a=b):∀a b:List Int,(if p then P a else a=[])->(if p then P b else b=[])->a=b:=λa b h k=>by
 by_cases hp:p
 ·rw[Aq hp]at h k;exact u a b h k
 rw[Au hp]at h k;rw[h,k]
section
variable {g:zf}{s:zH}{v t p:Int}{l:List Int}
theorem iP{wt:xz->Int}(h:xu s wt v l):the (xu s wt v)=l:=cO h (Xo λ_ _ h k=>h.eq k)
theorem du(h:vc s l):the (vc s)=l:=cO h (Xo λ_ _ h k=>h.eq k)
theorem UI(h:tq g v t l):the (tq g v t)=l:=cO h (Xo λ_ _ h k=>h.eq k)
theorem ZB(h:vn g v t l):the (vn g v t)=l:=cO h (Xo λ_ _ h k=>h.eq k)
theorem lH{wt:zR->Int}(h:yN g wt v t l):the (yN g wt v t)=l:=cO h (Xo λ_ _ h k=>h.eq k)
noncomputable def Ul(g:zf)(p v:Int):List (List zg):=Classical.epsilon λout=>∃k,tu g p v k out
theorem UY{k:Nat}{A:List (List zg)}(h:tu g p v k A):Ul g p v=A:=by
 obtain⟨C,B⟩:=Classical.epsilon_spec (p:=λA=>∃k,tu g p v k A) ⟨A,k,h⟩;exact(B.eq h).2
noncomputable def qk(g:zf)(v u:Int):Int×Int×Int:=Classical.epsilon λr=>xX g v u r.1 r.2.1 r.2.2
theorem jQ{u d a A:Int}(h:xX g v u d a A):qk g v u=(d,a,A):=by
 have B:=Classical.epsilon_spec (p:=λr:Int×Int×Int=>xX g v u r.1 r.2.1 r.2.2) ⟨(d,a,A),h⟩;obtain⟨C,D,E⟩:=B.eq h;exact Prod.ext C (Prod.ext D E)
end
abbrev Yo:=zf->List Int->List UInt8
def rG(n:List Int)(i:Nat):Int:=(n[i]?).getD 0
def uo(g:zf)(t:Int)(tell:zH->List Int×Int):List UInt8:=if wF g t=0 then yb (tell (pu g t)).1 (tell (pu g t)).2 else yO (wF g t)
def sH:Yo:=λg _=>(if zz g=0 then sN g else [])++Uw
noncomputable def tT:Yo:=λg n=>uo g (rG n 0) λs=>(the (xu s gS (rG n 1)),yk s (rG n 1))
noncomputable def uj:Yo:=λg n=>uo g (rG n 0) λs=>(the (xu s mq (rG n 1)),yk s (rG n 1))
noncomputable def vA:Yo:=λg n=>uo g (rG n 0) λs=>(the (vc s),zW s)
noncomputable def rb:Yo:=λg n=>if zZ g (rG n 0) (rG n 1)=0 then (if Ul g (rG n 0) (rG n 1)=[] then cU else zO 32 ((Ul g (rG n 0) (rG n 1)).map xe)) else yO (zZ g (rG n 0) (rG n 1))
noncomputable def tG:Yo:=λg n=>yb (the (tq g (rG n 0) (rG n 1))) (zm g (rG n 0) (rG n 1))
noncomputable def ry:Yo:=λg n=>yb (the (vn g (rG n 0) (rG n 1))) (zm g (rG n 0) (rG n 1))
noncomputable def tF:Yo:=λg n=>yb (the (yN g ul (rG n 0) (rG n 1))) (zm g (rG n 0) (rG n 1))
noncomputable def od:Yo:=λg n=>yb (the (yN g qu (rG n 0) (rG n 1))) (zm g (rG n 0) (rG n 1))
noncomputable def sG:Yo:=λg n=>yb [(qk g (rG n 0) (rG n 1)).1,(qk g (rG n 0) (rG n 1)).2.1] (qk g (rG n 0) (rG n 1)).2.2
def qi(l:List yy):Yo:=λg n=>yb [(pE g (rG n 0) (rG n 1) l).1,(pE g (rG n 0) (rG n 1) l).2.1,(pE g (rG n 0) (rG n 1) l).2.2.1] (pE g (rG n 0) (rG n 1) l).2.2.2
def xr:List UInt8:=[115,104,111,119]
def xo:List UInt8:=[104,111,112,115]
def yr:List UInt8:=[99,111,115,116,115]
def zX:List UInt8:=[108,97,98,101,108,115]
def vJ:List UInt8:=[97,108,108]
def yt:List UInt8:=[101,97,114,108,121]
def xp:List UInt8:=[108,97,116,101]
def yq:List UInt8:=[99,104,101,97,112]
def vK:List UInt8:=[102,101,119]
def xn:List UInt8:=[102,97,115,116]
def pj:List UInt8:=[103,114,97,112,104]
def bI:List UInt8:=[103,111]
def qe:List UInt8:=[99,108,101,97,114]
noncomputable def xS(verb:List UInt8):Option (Nat×Yo):=
 if verb=xr then some (0,sH) else if verb=xo then some (2,tT) else if verb=yr then some (2,uj) else if verb=zX then some (1,vA) else if verb=vJ then some (2,rb)
 else if verb=yt then some (2,tG) else if verb=xp then some (2,ry) else if verb=yq then some (2,tF) else if verb=vK then some (2,od) else if verb=xn then some (2,sG) else none
def qc(text:List UInt8)(F:Yo)(n:List Int):List UInt8:=if (zY text).2.2=0 then F (zY text).1 n else yO (zY text).2.2++[32]++Lib.itoa (zY text).2.1
def oR(s:List UInt8):Option yy:=match yn [(Lib.cut s [64]).1,(Lib.cut s [64]).2.1]with|some n=>some ⟨rG n 0,rG n 1⟩|none=>none
def vu:List (List UInt8)->Option (List yy)
 |[]=>some []
 |s::l=>match oR s,vu l with|some h,some r=>some (h::r)|_,_=>none
def Xg(text:List UInt8)(w:List (List UInt8)):List UInt8:=if w.length<2 then yO 3 else match yn (w.take 2),vu (w.drop 2)with|some n,some l=>qc text (qi l) n|_,_=>yO 3
noncomputable def ur(text verb:List UInt8)(w:List (List UInt8)):List UInt8:=match xS verb,yn w with|some f,some n=>if n.length=f.1 then qc text f.2 n else yO 3|_,_=>yO 3
def mm(text:List UInt8)(w:List (List UInt8)):List UInt8×List UInt8:=if w=[] then (text,yO 3) else if 8192<text.length+(zO 32 w++[10]).length then (text,yO 2) else (text++(zO 32 w++[10]),Uw)
noncomputable def kq(text verb:List UInt8)(w:List (List UInt8)):List UInt8×List UInt8:=
 if verb=pj then mm text w else if verb=bI then (text,Xg text w) else if verb=qe then (if w=[] then ([],Uw) else (text,yO 3)) else (text,ur text verb w)
theorem kZ{s:List UInt8}{h:yy}(hh:oR s=some h):∀{l:List (List UInt8)} {r:List yy},vu l=some r->vu (l++[s])=some (r++[h])
 |[],r,hr=>by
  simp only[vu,Option.some.injEq]at hr;subst hr;simp[vu,hh]
 |x::l,r,hr=>by
  rw[List.cons_append];unfold vu at hr⊢
  cases hx:oR x with
  |none=>rw[hx]at hr;simp at hr
  |some y=>
   cases hl:vu l with
   |none=>rw[hx,hl]at hr;simp at hr
   |some r'=>
    rw[hx,hl]at hr;simp only[Option.some.injEq]at hr;subst hr;rw[kZ hh hl];rfl
theorem nH{s:List UInt8}(hh:oR s=none):∀{l:List (List UInt8)},s∈l->vu l=none
 |[],h=>by simp at h
 |x::l,h=>by
  unfold vu;rcases List.mem_cons.1 h with rfl|h
  ·rw[hh]
  rw[nH hh h]
  cases oR x <;> rfl
theorem Vu{w:List (List UInt8)}{k:Nat}{s:List UInt8}{h:yy}{r:List yy}(C:w[k]?=some s)(A:oR s=some h)(B:vu (w.take k)=some r):vu (w.take (k+1))=some (r++[h]):=by
 rw[AO,C];exact kZ A B
theorem Qk{s:List UInt8}{h:yy}(A:oR s=some h):yn [(Lib.cut s [64]).1,(Lib.cut s [64]).2.1]=some [h.edge,h.depart]:=by
 unfold oR at A
 cases B:yn [(Lib.cut s [64]).1,(Lib.cut s [64]).2.1]with
 |none=>rw[B]at A;simp at A
 |some n=>
  rw[B]at A;have C:n=[yL (Lib.cut s [64]).1,yL (Lib.cut s [64]).2.1]:=by
   unfold yn at B
   split at B
   ·simpa using B.symm
   simp at B
  subst C;simp only[Option.some.injEq]at A;subst A;rfl
theorem RS(x:List UInt8)(c:UInt8):(Lib.cut x [c]).1.length<=x.length/\(Lib.cut x [c]).2.1.length<=x.length:=by
 unfold Lib.cut
 split
 ·simp only[AE,List.length_drop];omega
 simp
section
variable {g:zf}{s:zH}{v t u p:Int}{l:List Int}
theorem zt{n:Int}(h0:-1<=n)(h1:n<=1000000000):zM n:=by constructor <;> omega
theorem kD{h:Int}:∀(l:List zR) (p:Option Int),0<=yB h p l/\yB h p l<=9
 |[],_=>by simp[yB]
 |x::r,p=>by
  have ih:=kD (h:=h) r (some x.t);rw[yB.eq_def];simp only
  split
  ·omega
  split
  ·omega
  exact ih
theorem mO{h n:Int}:∀(l:List zA),0<=yI h n l/\yI h n l<=9
 |[]=>by simp[yI]
 |x::r=>by
  have ih:=mO (h:=h) (n:=n) r;rw[yI]
  split
  ·exact ih
  unfold yU
  split
  ·omega
  split
  ·omega
  exact kD _ _
theorem uM(g:zf):0<=zz g/\zz g<=9:=by
 unfold zz
 split
 ·omega
 split
 ·omega
 split
 ·omega
 exact mO _
theorem yo(g:zf)(v t:Int):0<=zm g v t/\zm g v t<=9:=by
 have:=uM g;unfold zm
 split
 ·split
  ·split <;> omega
  omega
 exact this
theorem YF(g:zf)(t:Int):0<=wF g t/\wF g t<=9:=by
 have:=uM g;unfold wF
 split
 ·split <;> omega
 exact this
theorem iD(g:zf)(p v:Int):0<=zZ g p v/\zZ g p v<=9:=by
 have:=uM g;unfold zZ
 split
 ·split
  ·split <;> omega
  omega
 exact this
theorem ao(C:zx g)(h:List yy):zM (pE g v t h).1/\zM (pE g v t h).2.1/\zM (pE g v t h).2.2.1/\zM (pE g v t h).2.2.2:=by
 have A:zM 0:=zt (by decide) (by decide)
 by_cases B:zm g v t=0
 ·by_cases E:500<h.length
  ·rw[gg B E];exact⟨A,A,A,zt (by decide) (by decide)⟩
  cases D:zn g v t with
  |false=>rw[eW B E D];exact⟨A,A,A,zt (by decide) (by decide)⟩
  |true=>
   cases F:fY g v t 0 h with
   |none=>rw[eX B E D F];exact⟨A,A,A,zt (by decide) (by decide)⟩
   |some r=>
    have G:Yq g v t:=by
     unfold zm at B;rw[Aq (xK C)]at B
     split at B
     ·next h1=>
      split at B
      ·next h2=>
       simp only[vQ,decide_eq_true_eq]at h1 h2;exact⟨h1.1,by omega,h2.1,by omega,D⟩
      simp at B
     simp at B
    obtain⟨a,b,d⟩:=r;obtain⟨⟨I,J,K,L,_⟩,_,M,N⟩:=Xe C h v t 0 a b d G F;have e:pE g v t h=(a,b,d,0):=by unfold pE;rw[Aq B,Au E,Aq D,F]
    have O:=C.nl;have H:=C.h1;rw[e];simp only;exact⟨zt (by omega) (by omega),zt (by omega) (by omega),zt (by omega) (by omega),A⟩
 rw[gj B];have:=yo g v t;simp only;exact⟨A,A,A,zt (by omega) (by omega)⟩
theorem eQ(C:zx g){d a B:Int}(h:xX g v u d a B):zM d/\zM a/\zM B:=by
 have A:zM 0:=zt (by decide) (by decide)
 cases h with
 |bad h=>exact absurd (xK C) h
 |out h h2=>exact⟨A,A,zt (by decide) (by decide)⟩
 |none h hv hu h2=>exact⟨A,A,zt (by decide) (by decide)⟩
 |some h hv hu h2=>
  have D:=C.h1;have a0:=h2.a0;have a1:=h2.a1;have b0:=h2.b0;have b1:=h2.b1;exact⟨zt (by omega) (by omega),zt (by omega) (by omega),A⟩
theorem WC{wt:xz->Int}(h:xu s wt v l):l.length<=s.alive.length:=by
 unfold xu at h
 split at h
 ·exact Nat.le_of_eq h.1
 rw[h];simp
theorem VE(h:vc s l):l.length<=s.alive.length:=by
 unfold vc at h
 split at h
 ·exact Nat.le_of_eq h.1
 rw[h];simp
theorem UH(h:tq g v t l):l.length<=g.lives.length:=by
 unfold tq at h
 split at h
 ·exact Nat.le_of_eq h.1
 rw[h];simp
theorem ZA(h:vn g v t l):l.length<=g.lives.length:=by
 unfold vn at h
 split at h
 ·exact Nat.le_of_eq h.1
 rw[h];simp
theorem lG{wt:zR->Int}(h:yN g wt v t l):l.length<=g.lives.length:=by
 unfold yN at h
 split at h
 ·obtain⟨d,_,rfl⟩:=h
  exact Nat.le_of_eq (dx g d)
 rw[h];simp
theorem wJ{e:Int}(A:zM e):(yO e).length<=100000:=by
 have:=oN A;omega
theorem Zu(g:zf)(t:Int)(A:zx g):(pu g t).alive.length<=12:=by
 unfold pu
 split
 ·rw[show(xR g t).alive.length=g.lives.length from wu g t];exact A.nl
 simp
end
theorem kF:∀(l:List (List UInt8)) (i:Nat) (g:zf),0<=(yE i g l).2.1/\(yE i g l).2.1<=i+l.length+1/\0<=(yE i g l).2.2/\(yE i g l).2.2<=9
 |[],i,g=>by
  have:=uM g;rw[yE];unfold gd
  split <;> simp <;> omega
 |[q],i,g=>by
  have:=uM g;rw[yE]
  split
  ·unfold gd
   split <;> simp <;> omega
  simp;omega
 |q::r::l,i,g=>by
  rw[yE]
  cases hs:xJ g (decide (i=0)) (zk 32 q)with
  |none=>simp;omega
  |some g'=>
   have ih:=kF (r::l) (i+1) g';simp only[Ap]at ih⊢;omega
theorem xU(c:UInt8):∀l:List UInt8,(zk c l).length<=l.length+1
 |[]=>by simp[zk]
 |b::l=>by
  have ih:=xU c l;obtain⟨p,ps,hp⟩:=wg c l
  by_cases hb:b=c
  ·subst hb;rw[xf];simp;omega
  rw[yc hb hp];rw[hp]at ih;simp at ih⊢;omega
theorem nT(s:List UInt8):zM (zY s).2.1/\zM (zY s).2.2:=by
 unfold zY
 split
 ·exact⟨zt (by decide) (by decide),zt (by decide) (by decide)⟩
 next h=>
 have A:=kF (zk 10 s) 0 qn;have B:=xU 10 s;exact⟨zt (by omega) (by omega),zt (by omega) (by omega)⟩
theorem nU{s:List UInt8}(h:(zY s).2.2=0):zx (zY s).1:=by
 have B:∀(l:List (List UInt8)) (i:Nat) (g:zf),(yE i g l).2.2=0->zz (yE i g l).1=0:=by
  intro l
  induction l with
  |nil=>
   intro i g h;rw[yE]at h⊢;unfold gd at h⊢
   split at h
   ·next h1=>rw[Aq h1];exact h1
   next h1=>exact absurd h h1
  |cons q l ih=>
   intro i g h
   cases l with
   |nil=>
    rw[yE]at h⊢
    split at h
    ·next h0=>
     rw[Aq h0];unfold gd at h⊢
     split at h
     ·next h1=>rw[Aq h1];exact h1
     next h1=>exact absurd h h1
    simp at h
   |cons r l=>
    rw[yE]at h⊢
    cases A:xJ g (decide (i=0)) (zk 32 q)with
    |none=>rw[A]at h;simp at h
    |some g'=>
     rw[A]at h;exact ih (i+1) g' h
 unfold zY at h⊢
 split at h
 ·simp at h
 next h1=>rw[Au h1];exact uX (B _ _ _ h)
