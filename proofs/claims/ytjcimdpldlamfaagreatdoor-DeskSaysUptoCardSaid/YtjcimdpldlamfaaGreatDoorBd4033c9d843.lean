import Derived.Test.YtjcimdpldlamfaaGreatDoorBdadf61bea97
import Derived.Test.YtjcimdpldlamfaaGreatDoorBdc4166cbe5f
import Derived.Test.YtjcimdpldlamfaaGreatDoorBdc6e1fc44e5
namespace Go.Proofs.YtjcimdpldlamfaaGreatDoor
set_option maxHeartbeats 1000000
open Go.RowKit
theorem Qb{b:Bool}{x:Int}(h:b=false->x=1)(A:b=true->x=0){d:Bool}(e:b=d):x=if d then 0 else 1:=by
 cases d
 ·exact h e
 exact A e
theorem iq{a:Int}(h:¬a=0):(a != 0)=true:=by simp[h]
theorem vB(A H:Option Addr)(c J:Nat)(g:zf)(v t:Int)(w:World)(G:zv w A c H J g) :
  Calls Tryz.prog 96 #[gV A c H J g,.int .i64 v,.int .i64 t] w λe U=>e=.returned (.int .i64 (zm g v t))/\Below w.heap.size w U:=by
 have W:g.lives.length<=9223372036854775807:=Nat.le_trans G.lc G.cm
 by_cases E:zz g=0
 case neg=>
  have O:=zc (dX (v:=v) (t:=t) E);have V:=iq E;clear E
  go_enter Tryz.func96,Tryz.ntmps96
  go_wp2_with fail;refine(ym _ _ _ _ g _ (G.ext (by go_grown))).mono ?_;rintro e F ⟨rfl,B⟩;have C:Below w.heap.size w F:=za (by go_grown) B;go_wp2_with fail;go_ret;exact⟨zC O.out.symm,C⟩
 have O:=zc E
 cases D:vQ v 0 ((g.lives.length:Int)-1)
 case false=>
  have I:=zc (dZ (t:=t) E D);simp only[vQ,decide_eq_false_iff_not]at D
  go_enter Tryz.func96,Tryz.ntmps96
  go_wp2_with fail;refine(ym _ _ _ _ g _ (G.ext (by go_grown))).mono ?_;rintro e F ⟨rfl,B⟩;obtain⟨N,P,Q,R⟩:=(zj.new w 68 (gC A c H J g)).go B;have C:Below w.heap.size w F:=za (by go_grown) B;go_wp2_with fail
  all_goals go_ret
  all_goals exact⟨zC I.out.symm,C⟩
 case true=>
  cases K:vQ t 0 (g.h-1)
  case false=>
   have I:=zc (dY E D K);simp only[vQ,decide_eq_false_iff_not,decide_eq_true_eq]at D K;obtain⟨L,M⟩:=D
   go_enter Tryz.func96,Tryz.ntmps96
   go_wp2_with fail;refine(ym _ _ _ _ g _ (G.ext (by go_grown))).mono ?_;rintro e F ⟨rfl,B⟩;obtain⟨N,P,Q,R⟩:=(zj.new w 68 (gC A c H J g)).go B;have C:Below w.heap.size w F:=za (by go_grown) B;go_wp2_with fail
   all_goals go_ret
   all_goals exact⟨zC I.out.symm,C⟩
  case true=>
   have I:=zc (ji E D K);simp only[vQ,decide_eq_true_eq]at D K;obtain⟨L,M⟩:=D;obtain⟨S,T⟩:=K
   go_enter Tryz.func96,Tryz.ntmps96
   go_wp2_with fail;refine(ym _ _ _ _ g _ (G.ext (by go_grown))).mono ?_;rintro e F ⟨rfl,B⟩;obtain⟨N,P,Q,R⟩:=(zj.new w 68 (gC A c H J g)).go B;have C:Below w.heap.size w F:=za (by go_grown) B;go_wp2_with fail;go_ret;exact⟨zC I.out.symm,C⟩
theorem rq(A F:Option Addr)(c G:Nat)(g:zf)(v t:Int)(w:World)(D:zv w A c F G g) :
  Calls Tryz.prog 88 #[gV A c F G g,.int .i64 v,.int .i64 t] w λe J=>e=.returned (.int .i64 (zm g v t))/\Below w.heap.size w J:=by
 have T:g.lives.length<=9223372036854775807:=Nat.le_trans D.lc D.cm
 by_cases h0:zz g=0
 case neg=>
  have K:=zc (dX (v:=v) (t:=t) h0);have S:=iq h0;clear h0
  go_enter Tryz.func88,Tryz.ntmps88
  go_wp2_with fail;refine(uc _ _ _ _ g _ (D.ext (by go_grown))).mono ?_;rintro e E ⟨rfl,B⟩;have C:Below w.heap.size w E:=za (by go_grown) B;go_wp2_with fail;go_ret;exact⟨zC K.out.symm,C⟩
 have R:=(uX h0).h0;have P:=(uX h0).h1;have K:=zc h0
 cases I:vQ v 0 ((g.lives.length:Int)-1)
 case false=>
  have H:=zc (dZ (t:=t) h0 I)
  go_enter Tryz.func88,Tryz.ntmps88
  go_wp2_with fail;refine(uc _ _ _ _ g _ (D.ext (by go_grown))).mono ?_;rintro e E ⟨rfl,B⟩;obtain⟨L,M,N,O⟩:=(zj.new w 68 (gC A c F G g)).go B;have C:Below w.heap.size w E:=za (by go_grown) B;go_wp2_with (go_at_call 82;refine(xh _ _ _ _).mono ?_;rintro e J ⟨rfl,rfl⟩);go_ret;exact⟨zC H.out.symm,C⟩
 case true=>
  cases Q:vQ t 0 (g.h-1)
  all_goals
   have H:=zc (Qb (dY h0 I) (ji h0 I) Q)
   go_enter Tryz.func88,Tryz.ntmps88
   go_wp2_with fail;refine(uc _ _ _ _ g _ (D.ext (by go_grown))).mono ?_;rintro e E ⟨rfl,B⟩;obtain⟨L,M,N,O⟩:=(zj.new w 68 (gC A c F G g)).go B;have C:Below w.heap.size w E:=za (by go_grown) B;go_wp2_with (go_at_call 82;refine(xh _ _ _ _).mono ?_;rintro e J ⟨rfl,rfl⟩);go_ret;exact⟨zC H.out.symm,C⟩
def OB(o:Option (zR×Int)):Value:=match o with
 |some (l,to)=>.tuple #[.int .i64 to,.int .i64 l.cost,.bool true]
 |none=>.tuple #[.int .i64 0,.int .i64 0,.bool false]
theorem az(A A':Option Addr)(c u:Nat)(g:zf)(x:zA)(i t:Int)(w:World)(q:zv w A c A' u g)(hV:zx g)(Y0:0<=i)(Z:g.edges[i.toNat]?=some x)(ht:zM t) :
  Calls Tryz.prog 122 #[gV A c A' u g,.int .i64 i,.int .i64 t] w λe w'=>e=.returned (OB (zF g x t))/\Below w.heap.size w w':=by
 obtain⟨g0,h0⟩:=ht;have hx:xW g x:=hV.edges x (List.mem_of_getElem? Z);have S0:=zy Z;have Z0:i<(g.edges.length:Int):=by omega
 have e0:=hV.ne;obtain⟨be,oe,hE⟩:=q.edges;obtain⟨rfl,X0,⟨⟨x0,x1,L,cl,x2,L0,M0,v⟩,_⟩⟩:=hE _ x Z;have hl:x.legs.length<=maxLen:=Nat.le_trans L0 M0;unfold zJ at x0 x1 x2;clear hE Z
 cases h:yC t x.legs with
 |none=>
  have H:=zc h;have s:=zc (bU (g:=g) h);clear h
  go_enter Tryz.func122,Tryz.ntmps122
  go_wp2_with fail;refine(Wj _ (v.ext yY.stable (by go_grown)) hl H.out).mono ?_;rintro e F ⟨rfl,C⟩;have D:Below w.heap.size w F:=za (by go_grown) C;go_wp2_with fail
  go_ret3
  exact⟨by rw[s.out];rfl,ze D _⟩
 |some l=>
  have hm:=rn h;have c0:=hx.legs l hm.1;have X:=hx.a0;have Y:=hx.a1;have y:=hx.b0;have d:=hx.b1;have hh:=hV.h1;have H:=zc h;have s:=zc (bV (g:=g) h);clear h
  by_cases hA:zn g x.a t=true
  case neg=>
   have J0:zn g x.a t=false:=by simpa using hA
   clear hA;have HA:=zc J0
   go_enter Tryz.func122,Tryz.ntmps122
   go_wp2_with fail;refine(pI _ (v.ext yY.stable (by go_grown)) hl H.out).mono ?_;rintro e F ⟨rfl,C⟩;obtain⟨G,j,k,m⟩:=zj.go (g:=w.heap.size) (t:=68) (cs:=gC A c _ u g) ((zj.new _ _ _).alloc _) C;obtain⟨I,n,o,p⟩:=zj.go (g:=w.heap.size+1) (t:=97) (cs:=#[.int .i64 x.a,.int .i64 x.b,.slice L x.legs.length cl]) (zj.new_ (by simp)) C;have D:Below w.heap.size w F:=za (by go_grown) C
   clear C;go_wp2_with fail;refine(ye _ _ _ _ g x.a t _ (q.ext (ze D _)) X Y).mono ?_;rintro e r ⟨rfl,B⟩;obtain⟨M,O,P,Q⟩:=(G.alloc _).go B;obtain⟨N,R,S,T⟩:=(I.alloc _).go B;obtain⟨J,U,V,W⟩:=(zj.new F 100 #[.int .i64 l.f,.int .i64 l.t,.int .i64 l.time,.int .i64 l.cost]).go B;have E:Below w.heap.size w r:=za (ze D _) B
   clear B j k m n o p G I;go_wp2_with fail
   go_ret3
   exact⟨by rw[s.out,if_neg (by simp[HA.out])];rfl,by go_grown⟩
  have HA:=zc hA
  by_cases hH:t+l.time<g.h
  case neg=>
   have HH:=zc hH
   go_enter Tryz.func122,Tryz.ntmps122
   go_wp2_with fail;refine(pI _ (v.ext yY.stable (by go_grown)) hl H.out).mono ?_;rintro e F ⟨rfl,C⟩;obtain⟨G,j,k,m⟩:=zj.go (g:=w.heap.size) (t:=68) (cs:=gC A c _ u g) ((zj.new _ _ _).alloc _) C;obtain⟨I,n,o,p⟩:=zj.go (g:=w.heap.size+1) (t:=97) (cs:=#[.int .i64 x.a,.int .i64 x.b,.slice L x.legs.length cl]) (zj.new_ (by simp)) C;have D:Below w.heap.size w F:=za (by go_grown) C
   clear C;go_wp2_with fail;refine(ye _ _ _ _ g x.a t _ (q.ext (ze D _)) X Y).mono ?_;rintro e r ⟨rfl,B⟩;obtain⟨M,O,P,Q⟩:=(G.alloc _).go B;obtain⟨N,R,S,T⟩:=(I.alloc _).go B;obtain⟨J,U,V,W⟩:=(zj.new F 100 #[.int .i64 l.f,.int .i64 l.t,.int .i64 l.time,.int .i64 l.cost]).go B;have E:Below w.heap.size w r:=za (ze D _) B
   clear B j k m n o p G I;go_wp2_with fail
   go_ret3
   exact⟨by rw[s.out,if_neg (by exact λhh=>by have:=HH.out;omega)];rfl,by go_grown⟩
  have HH:=zc hH
  cases hB:zn g x.b (t+l.time)
  case false=>
   have HB:=zc hB
   go_enter Tryz.func122,Tryz.ntmps122
   go_wp2_with fail;refine(pI _ (v.ext yY.stable (by go_grown)) hl H.out).mono ?_;rintro e F ⟨rfl,C⟩;obtain⟨G,j,k,m⟩:=zj.go (g:=w.heap.size) (t:=68) (cs:=gC A c _ u g) ((zj.new _ _ _).alloc _) C;obtain⟨I,n,o,p⟩:=zj.go (g:=w.heap.size+1) (t:=97) (cs:=#[.int .i64 x.a,.int .i64 x.b,.slice L x.legs.length cl]) (zj.new_ (by simp)) C;have D:Below w.heap.size w F:=za (by go_grown) C
   clear C;go_wp2_with fail;refine(ye _ _ _ _ g x.a t _ (q.ext (ze D _)) X Y).mono ?_;rintro e r ⟨rfl,B⟩;obtain⟨M,O,P,Q⟩:=(G.alloc _).go B;obtain⟨N,R,S,T⟩:=(I.alloc _).go B;obtain⟨J,U,V,W⟩:=(zj.new F 100 #[.int .i64 l.f,.int .i64 l.t,.int .i64 l.time,.int .i64 l.cost]).go B;have E:Below w.heap.size w r:=za (ze D _) B
   clear B j k m n o p G I;go_wp2_with fail;refine(ye _ _ _ _ g x.b (t+l.time) _ (q.ext E) y d).mono ?_;rintro e w3 ⟨rfl,K⟩;have z:Below w.heap.size w w3:=za E K;go_wp2_with fail
   go_ret3
   exact⟨by rw[s.out,if_neg (by exact λhh=>by rw[HB.out]at hh;exact absurd hh.2.2 (by simp))];rfl,by go_grown⟩
  case true=>
   have HB:=zc hB
   go_enter Tryz.func122,Tryz.ntmps122
   go_wp2_with fail;refine(pI _ (v.ext yY.stable (by go_grown)) hl H.out).mono ?_;rintro e F ⟨rfl,C⟩;obtain⟨G,j,k,m⟩:=zj.go (g:=w.heap.size) (t:=68) (cs:=gC A c _ u g) ((zj.new _ _ _).alloc _) C;obtain⟨I,n,o,p⟩:=zj.go (g:=w.heap.size+1) (t:=97) (cs:=#[.int .i64 x.a,.int .i64 x.b,.slice L x.legs.length cl]) (zj.new_ (by simp)) C;have D:Below w.heap.size w F:=za (by go_grown) C
   clear C;go_wp2_with fail;refine(ye _ _ _ _ g x.a t _ (q.ext (ze D _)) X Y).mono ?_;rintro e r ⟨rfl,B⟩;obtain⟨M,O,P,Q⟩:=(G.alloc _).go B;obtain⟨N,R,S,T⟩:=(I.alloc _).go B;obtain⟨J,U,V,W⟩:=(zj.new F 100 #[.int .i64 l.f,.int .i64 l.t,.int .i64 l.time,.int .i64 l.cost]).go B;have E:Below w.heap.size w r:=za (ze D _) B
   clear B j k m n o p G I;go_wp2_with fail;refine(ye _ _ _ _ g x.b (t+l.time) _ (q.ext E) y d).mono ?_;rintro e w3 ⟨rfl,K⟩;obtain⟨T0,U0,V0,W0⟩:=J.go K;have z:Below w.heap.size w w3:=za E K;clear K M O P Q N R S T J U V W;go_wp2_with fail
   go_quiet (fail)
   go_wp2
   go_ret3
   exact⟨by rw[s.out,if_pos ⟨HA.out,HH.out,HB.out⟩];rfl,zo z _⟩
set_option maxRecDepth 100000
set_option maxHeartbeats 2000000
theorem ig(A A':Option Addr)(c c':Nat)(g:zf)(x:zA)(i t:Int)(w:World)(hG:zv w A c A' c' g)(hV:zx g)(hi0:0<=i)(hix:g.edges[i.toNat]?=some x)(ht:zM t)(h:zF g x t=none) :
  Calls Tryz.prog 122 #[gV A c A' c' g,.int .i64 i,.int .i64 t] w λe w'=>e=.returned (.tuple #[.int .i64 0,.int .i64 0,.bool false])/\Below w.heap.size w w':=
 (az A A' c c' g x i t w hG hV hi0 hix ht).mono λe w' ⟨he,hb⟩=>⟨by rw[he,h];rfl,hb⟩
theorem kC(A A':Option Addr)(c c':Nat)(g:zf)(x:zA)(i t:Int)(lg:zR)(to:Int)(w:World)(hG:zv w A c A' c' g)(hV:zx g)(hi0:0<=i)(hix:g.edges[i.toNat]?=some x)(ht:zM t)(h:zF g x t=some (lg,to)) :
  Calls Tryz.prog 122 #[gV A c A' c' g,.int .i64 i,.int .i64 t] w λe w'=>e=.returned (.tuple #[.int .i64 to,.int .i64 lg.cost,.bool true])/\Below w.heap.size w w':=
 (az A A' c c' g x i t w hG hV hi0 hix ht).mono λe w' ⟨he,hb⟩=>⟨by rw[he,h];rfl,hb⟩
def OI(g:zf)(v t:Int)(l:List yy)(n:Nat)(x y z:Int)(ok:Bool):Prop:=
 (ok=true->zn g v t=true/\0<=z/\z<=1000*n/\fY g x y z (l.drop n)=fY g v t 0 l)/\(ok=false->pE g v t l=(0,0,0,5))
theorem SQ(A A' Ah:Option Addr)(c c' ch:Nat)(g:zf)(v t:Int)(l:List yy)(w:World)(Q:zv w A c A' c' g)(hH:zU mt 2 w Ah l)(Y0:l.length<=maxLen) :
  Calls Tryz.prog 80 #[gV A c A' c' g,.int .i64 v,.int .i64 t,.slice Ah l.length ch] w λe Z=>e=.returned (Oy (pE g v t l))/\Below w.heap.size w Z:=by
 unfold maxLen at Y0
 by_cases N:zm g v t=0
 case neg=>
  have H0:=zc (gj (l:=l) N);have hn:=iq N;clear N
  go_enter Tryz.func80,Tryz.ntmps80
  go_wp2_with fail;refine(rq _ _ _ _ g v t _ (Q.ext (by go_grown))).mono ?_;rintro e w1 ⟨rfl,F⟩;have G:Below w.heap.size w w1:=za (by go_grown) F;go_wp2_with fail;refine bodyPost_ret (yJ rfl _ _ _) rfl ?_;exact⟨by rw[H0.out];rfl,G⟩
 obtain⟨s,hv,ht⟩:=uR N;obtain⟨b0,d0⟩:=hv;obtain⟨W1,X1⟩:=ht;have hh:=s.h1;have S1:=s.ne
 by_cases H:500<l.length
 ·have H0:=zc (gg N H)
  go_enter Tryz.func80,Tryz.ntmps80
  go_wp2_with fail;refine(rq _ _ _ _ g v t _ (Q.ext (by go_grown))).mono ?_;rintro e w1 ⟨rfl,F⟩;have G:Below w.heap.size w w1:=za (by go_grown) F;go_wp2_with fail;refine bodyPost_ret (yJ rfl _ _ _) rfl ?_;exact⟨by rw[H0.out];rfl,G⟩
 have HD:=zc (λC=>eW N H C);have HN:=zc (λC h4=>eX N H C h4);have HS:=zc (λa b c C h4=>Xf (a:=a) (b:=b) (c:=c) N H C h4);obtain⟨bh,oh,j⟩:=hH
 go_enter Tryz.func80,Tryz.ntmps80
 go_wp2_with fail;refine(rq _ _ _ _ g v t _ (Q.ext (by go_grown))).mono ?_;rintro e w1 ⟨rfl,F⟩;obtain⟨Y,c1,c2,c3⟩:=(zj.new w 68 (gC A c A' c' g)).go F;have G:Below w.heap.size w w1:=za (by go_grown) F;go_wp2_with fail;refine(ye _ _ _ _ g v t _ (Q.ext G) b0 d0).mono ?_;rintro e w2 ⟨rfl,V⟩;have u:=za G V;have f:=Y.ext V;go_wp2_with fail;clear V Y c1 c2 c3 F N
 go_loopw [8,9,10,13,14] (λa b d o k wr=>∃(n:Nat) (x y z:Int) (ok:Bool),n<=l.length/\k=.int .i64 n/\a=.int .i64 x/\b=.int .i64 y/\d=.int .i64 z/\o=.bool ok/\OI g v t l n x y z ok/\Below w.heap.size w wr/\zj wr w.heap.size 68 (gC A c A' c' g))
  (λ_ _ _ _ k _=>l.length-(intOf k).toNat)
 case atStart=>exact⟨0,v,t,0,zn g v t,Nat.zero_le _,rfl,rfl,rfl,rfl,rfl,⟨λh=>⟨h,by omega,by omega,rfl⟩,λh=>HD.out h⟩,u,f⟩
 clear u f G;obtain⟨n,x,y,z,ok,hn,rfl,rfl,rfl,rfl,rfl,hI,J,Y⟩:=hrel;obtain⟨b1,b2,b3⟩:=Y.facts
 cases ok
 case false=>
  have K:=zc (hI.2 rfl);clear hI
  by_cases E0:n<l.length
  all_goals
   go_wp2_with fail;refine bodyPost_ret (yJ rfl _ _ _) rfl ?_;exact⟨by rw[K.out];rfl,J⟩
 obtain⟨C,a1,d1,m⟩:=hI.1 rfl;have I:=zc C;have HI:=zc m;clear hI m C
 by_cases E0:n<l.length
 case neg=>
  have C0:=zc (HS.out x y z I.out (HI.out.symm.trans (by rw[vg (by omega)];rfl)));go_wp2_with fail;refine bodyPost_ret (yJ rfl _ _ _) rfl ?_;exact⟨by rw[C0.out];rfl,J⟩
 obtain⟨D,W⟩:=zl E0;obtain⟨rfl,N1,⟨⟨x0,x1⟩,Z1,I0⟩⟩:=j n D W;have y0:=x0.now J;have y1:=x1.now J;have hd:=xj W;have i:Hid (fY g x y z (D::l.drop (n+1))=fY g v t 0 l):=by rw[<-hd];exact HI
 have HF:=zc (λhx=>i.out.symm.trans (oP (c:=z) (r:=l.drop (n+1)) hx));clear j hd W HI x0 x1
 cases M:vQ D.edge 0 ((g.edges.length:Int)-1)
 case false=>
  have K:=zc (HN.out I.out (HF.out (ar M)));go_wp2_with (go_at_call 82;refine(xh _ _ _ _).mono ?_;rintro e Z ⟨rfl,rfl⟩);refine bodyPost_ret (yJ rfl _ _ _) rfl ?_;exact⟨by rw[K.out];rfl,ze J _⟩
 have D0:=sO.1 M;obtain⟨A0,O1⟩:=D0;obtain⟨q,X⟩:=zl (show D.edge.toNat<g.edges.length by omega);have P:=zc (λh2=>HF.out (au (v:=x) (t:=y) M X h2));have T:=zc (λh3=>HF.out (dd (v:=x) (t:=y) M X h3));have U:=zc (λto R h2 h3=>i.out.symm.trans (oQ (kY (v:=x) (t:=y) (to:=to) (l:=R) M X h2 h3)));have HQ:=zc X;have a0:xW g q:=s.edges q (List.mem_of_getElem? X)
 have L1:=Q.ext J;obtain⟨be,oe,hE⟩:=Q.edges;obtain⟨rfl,X0,⟨⟨z0,z1,L,cl,z2,P1,Q1,hL⟩,_⟩⟩:=hE _ q X;have k0:=z0.now J;have k1:=z1.now J;have m0:=Nat.lt_of_lt_of_le X0 J.size;have kz:D.edge<=0->wr.cell? ⟨be,oe,none⟩=some (.int .i64 q.a):=λhz=>by
  have e:D.edge.toNat=0:=by omega
  rw[e]at k0;simpa using k0
 clear hE X z0 z1 z2
 by_cases F0:q.a=x
 case neg=>
  have K:=zc (HN.out I.out (P.out λhx=>F0 hx.1));go_wp2_with (go_at_call 82;refine(xh _ _ _ _).mono ?_;rintro e Z ⟨rfl,rfl⟩)
  all_goals refine bodyPost_ret (yJ rfl _ _ _) rfl ?_
  all_goals exact⟨by rw[K.out];rfl,ze J _⟩
 subst F0
 by_cases G0:y<=D.depart
 case neg=>
  have K:=zc (HN.out I.out (P.out λhx=>G0 hx.2));have T1:decide (y<=D.depart)=false:=by simp;omega
  go_wp2_with (go_at_call 82;refine(xh _ _ _ _).mono ?_;rintro e Z ⟨rfl,rfl⟩)
  all_goals refine bodyPost_ret (yJ rfl _ _ _) rfl ?_
  all_goals exact⟨by rw[K.out];rfl,ze J _⟩
 have U1:decide (y<=D.depart)=true:=by simp;omega
 have O:Below w.heap.size w (wr.alloc (Obj.cells #[Value.int IntKind.i64 D.edge,Value.int IntKind.i64 D.depart] 64)):=ze J _
 cases E:zF g q D.depart with
 |none=>
  have S:=zc E;have K:=zc (HN.out I.out (T.out E));clear E;go_wp2_with (go_at_call 82;refine(xh _ _ _ _).mono ?_;rintro e Z ⟨rfl,rfl⟩)
  all_goals
   refine(ig _ _ _ _ g q D.edge D.depart _ (Q.ext O) s A0 HQ.out I0 S.out).mono ?_;rintro e w5 ⟨rfl,B⟩;obtain⟨B1,f1,f2,f3⟩:=(Y.alloc _).go B;obtain⟨B2,f4,f5,f6⟩:=(zj.new wr 64 _).go B;have e0:=zD (za (ze (Below.refl _ _) _) B) k1;go_wp2_with fail;go_roundw
   case rel=>exact⟨n+1,q.b,0,z,false,by omega,by go_num,rfl,rfl,by go_num,rfl,⟨λh=>(by cases h),λ_=>K.out⟩,za O B,B1⟩
   case measure=>simp[intOf];omega
 |some p=>
  obtain⟨R,to⟩:=p;have S:=zc E;have K:=zc (U.out to R ⟨rfl,G0⟩ E);have ha:=yh E;have Z0:=a0.legs R ha.1;have c0:0<=R.cost:=by omega
  have c1:R.cost<=1000:=by omega
  clear E ha Z0;go_wp2_with (go_at_call 82;refine(xh _ _ _ _).mono ?_;rintro e Z ⟨rfl,rfl⟩)
  all_goals
   refine(kC _ _ _ _ g q D.edge D.depart R to _ (Q.ext O) s A0 HQ.out I0 S.out).mono ?_;rintro e w5 ⟨rfl,B⟩;obtain⟨B1,f1,f2,f3⟩:=(Y.alloc _).go B;obtain⟨B2,f4,f5,f6⟩:=(zj.new wr 64 _).go B;have e0:=zD (za (ze (Below.refl _ _) _) B) k1;go_wp2_with fail;go_roundw
   case rel=>exact⟨n+1,q.b,to,z+R.cost,true,by omega,by go_num,rfl,rfl,rfl,rfl,⟨λ_=>⟨I.out,by omega,by omega,K.out.symm⟩,λh=>(by cases h)⟩,za O B,B1⟩
   case measure=>simp[intOf];omega
theorem kn(A A' L:Option Addr)(c c' cl:Nat)(g:zf)(x:zA)(t:Int)(w:World)(hG:zv w A c A' c' g)(hV:zx g)(hx:xW g x)
  (hL:zU yY 4 w L x.legs) (hl:x.legs.length<=maxLen) (ht:zM t) (h:zF g x t=none) :
  Calls Tryz.prog 98 #[gV A c A' c' g,qj L cl x,.int .i64 t] w λe w'=>e=.returned (.tuple #[tK ⟨0,0,0,0⟩,.int .i64 0,.bool false])/\Below w.heap.size w w':=
 (nx A A' L c c' cl g x t w hG hV hx hL hl ht).mono λe w' ⟨he,hb⟩=>⟨by rw[he,h];rfl,hb⟩
theorem qK(A A' L:Option Addr)(c c' cl:Nat)(g:zf)(x:zA)(t:Int)(lg:zR)(to:Int)(w:World)(hG:zv w A c A' c' g)(hV:zx g)(hx:xW g x)
  (hL:zU yY 4 w L x.legs) (hl:x.legs.length<=maxLen) (ht:zM t) (h:zF g x t=some (lg,to)) :
  Calls Tryz.prog 98 #[gV A c A' c' g,qj L cl x,.int .i64 t] w λe w'=>e=.returned (.tuple #[tK lg,.int .i64 to,.bool true])/\Below w.heap.size w w':=
 (nx A A' L c c' cl g x t w hG hV hx hL hl ht).mono λe w' ⟨he,hb⟩=>⟨by rw[he,h];rfl,hb⟩
theorem Qg(A J M:Option Addr)(c K S:Nat)(g:zf)(v t:Int)(l:List yy)(w:World)(L:zv w A c J K g)(_hH:zU mt 2 w M l)(O:l.length<=maxLen)
  (F:zm g v t=0->¬500<l.length->zn g v t=true->Calls Tryz.prog 47 #[gV A c J K g,.int .i64 v,.int .i64 t,.slice M l.length S] w λe R=>e=.returned (Oy (pE g v t l))/\Below w.heap.size w R) :
  Calls Tryz.prog 47 #[gV A c J K g,.int .i64 v,.int .i64 t,.slice M l.length S] w λe R=>e=.returned (Oy (pE g v t l))/\Below w.heap.size w R:=by
 unfold maxLen at O
 by_cases E:zm g v t=0
 case neg=>
  have G:=zc (gj (l:=l) E);have h:=iq E;clear E
  go_enter Tryz.func47,Tryz.ntmps47
  go_wp2_with fail;refine(vB _ _ _ _ g v t _ (L.ext (by go_grown))).mono ?_;rintro e I ⟨rfl,B⟩;have C:Below w.heap.size w I:=za (by go_grown) B;go_wp2_with fail;refine bodyPost_ret (yJ rfl _ _ _) rfl ?_;exact⟨by rw[G.out];rfl,C⟩
 obtain⟨T,Y,V⟩:=uR E;obtain⟨P,Q⟩:=Y;obtain⟨W,X⟩:=V;have f:=T.h1;have U:=T.ne
 by_cases D:500<l.length
 ·have G:=zc (gg E D)
  go_enter Tryz.func47,Tryz.ntmps47
  go_wp2_with fail;refine(vB _ _ _ _ g v t _ (L.ext (by go_grown))).mono ?_;rintro e I ⟨rfl,B⟩;have C:Below w.heap.size w I:=za (by go_grown) B;go_wp2_with fail;refine bodyPost_ret (yJ rfl _ _ _) rfl ?_;exact⟨by rw[G.out];rfl,C⟩
 cases H:zn g v t
 case false=>
  have G:=zc (eW E D H)
  go_enter Tryz.func47,Tryz.ntmps47
  go_wp2_with fail;refine(vB _ _ _ _ g v t _ (L.ext (by go_grown))).mono ?_;rintro e I ⟨rfl,B⟩;obtain⟨Z,a,b,d⟩:=(zj.new w 68 (gC A c J K g)).go B;have C:Below w.heap.size w I:=za (by go_grown) B;go_wp2_with fail;refine(xM _ _ _ _ g v t _ (L.ext C) P Q).mono ?_;rintro e i ⟨rfl,N⟩;go_wp2_with fail;refine bodyPost_ret (yJ rfl _ _ _) rfl ?_
  exact⟨by rw[G.out];rfl,za C N⟩
 exact F E D H
theorem jU:(Tryz.prog.info? 64).map (λi=>(i.zero,i.size,i.bytes))=some (some (.agg #[.int .i64 0,.int .i64 0]),2,16):=by kernel_rfl
theorem PD{a b:Int}:∀u∈(#[.int .i64 a,.int .i64 b]:Array Value).toList,u.oneCell'=true:=by simp[Value.oneCell']
theorem Vr(x:yy):(sc x).length=2:=rfl
def Uz(l:List yy)(er:Int)(w:World)(e:Ending)(w':World):Prop:=∃A c,e=.returned (.tuple #[.slice A l.length c,.int .i64 er])/\zU mt 2 w' A l/\l.length<=maxLen/\Below w.heap.size w w'
theorem iw{w:World}{base:Nat}{v:Value}{l:List yy}(h:Own sc 2 w base 64 v l)(hi:∀x,x∈l->zM x.edge/\zM x.depart):∃A c,v=.slice A l.length c/\zU mt 2 w A l:=
 h.slAt Vr λx hx b o hc=>⟨⟨by simpa using hc 0 _ rfl,by simpa using hc 1 _ rfl⟩,hi x hx⟩
theorem VV{g:zf}{v t:Int}(B:zx g)(h0:0<=t)(h1:t<g.h):(gF g v t).length<=3000/\∀x,x∈gF g v t->zM x.edge/\zM x.depart:=by
 have I:=B.h1;have A:=B.ne;unfold gF
 split
 ·have J:=aN (g:=g) (v:=v) (g.h-t).toNat t
  have K:(g.h-t).toNat*g.edges.length<=100*30:=Nat.mul_le_mul (by omega) A;refine⟨by omega,λx E=>?_⟩;obtain⟨F,G,C⟩:=(aO _ _).1 E;obtain⟨_,k,y,D,H,_⟩:=(jh _ _).1 C;have:=zy D;exact⟨⟨by omega,by omega⟩,by unfold zM;omega⟩
 exact⟨by simp,by simp⟩
set_option maxHeartbeats 4000000
theorem QM(A U:Option Addr)(c W:Nat)(g:zf)(v t:Int)(w:World)(hG:zv w A c U W g)(h0:zm g v t=0) :
  Calls Tryz.prog 108 #[gV A c U W g,.int .i64 v,.int .i64 t] w (Uz (gF g v t) 0 w):=by
 obtain⟨q,hv,ht⟩:=uR h0;obtain⟨Z0,a0⟩:=hv;obtain⟨K0,Y0⟩:=ht;have hh:=q.h1;have G1:=q.ne;have N:=zc (VV (v:=v) q K0 Y0);obtain⟨i0,hi,b0,c0,d0⟩:=info_parts jU;have HO:Hid (gF g v t=if zn g v t=true then qZ g v (g.h-t).toNat t else []):=zc rfl
 go_enter Tryz.func108,Tryz.ntmps108
 go_wp2_with fail;refine(vB _ _ _ _ g v t _ (hG.ext (by go_grown))).mono ?_;rintro e w1 ⟨rfl,r⟩;obtain⟨Z,c1,c2,c3⟩:=(zj.new w 68 (gC A c U W g)).go r;have H0:Below (w.heap.size+1) (w.alloc (.cells (gC A c U W g) 68)) w1:=by simpa using r
 go_wp2_with fail;clear c1 c2 c3 r h0
 go_loopw [9,10] (λo d wr=>∃(n:Nat) (y:Int) (H:List yy),n<=100/\d=.int .i64 y/\y+n=g.h/\0<=y/\Hid (H++(if zn g v t=true then qZ g v n y else [])=gF g v t)/\Own sc 2 wr (w.heap.size+1) 64 o H/\Below (w.heap.size+1) (w.alloc (.cells (gC A c U W g) 68)) wr)
  (λ_ d _=>(g.h-intOf d).toNat)
 case atStart=>exact⟨(g.h-t).toNat,t,[],by omega,rfl,by omega,K0,zc (by rw[HO.out];rfl),Own.nil,H0⟩
 clear H0 Z;obtain⟨n,y,H,hn,rfl,H1,K1,V,C,J⟩:=hrel;have G:Below w.heap.size w wr:=(Below.refl _ _).alloc (Nat.le_refl _) _ |>.trans (J.mono (by omega))
 have Z:=(zj.new w 68 (gC A c U W g)).below J (by omega);obtain⟨b1,b2,b3⟩:=Z.facts;have e0:w.heap.size+1<=wr.heap.size:=by have:=J.size;simpa using this
 go_wp2_with fail;refine(xM _ _ _ _ g v t _ (hG.ext G) Z0 a0).mono ?_;rintro e wc ⟨rfl,K⟩;obtain⟨N0,P0,Q0,R0⟩:=Z.go K;have E:=C.ext K;have I0:=J.trans (K.mono e0);have P:=za G K;have M1:=K.size;clear C J G Z b1 b2 b3 K
 cases S:zn g v t
 case false=>
  have Y:Hid (H=gF g v t):=zc (by have:=V.out;rw[S]at this;simpa using this);go_wp2_with fail;go_ret2;obtain⟨Ao,co,rfl,hS⟩:=iw E (by rw[Y.out];exact N.out.2);rw[Y.out]at hS⊢;exact⟨Ao,co,rfl,hS,Nat.le_trans N.out.1 (by unfold maxLen;omega),P⟩
 have l:Hid (H++qZ g v n y=gF g v t):=zc (by have:=V.out;rw[S]at this;simpa using this);clear V
 by_cases F1:y<g.h
 case neg=>
  have Y:Hid (H=gF g v t):=zc (by
   obtain rfl:n=0:=by omega
   simpa[qZ]using l.out)
  go_wp2_with fail;go_ret2;obtain⟨Ao,co,rfl,hS⟩:=iw E (by rw[Y.out];exact N.out.2);rw[Y.out]at hS⊢;exact⟨Ao,co,rfl,hS,Nat.le_trans N.out.1 (by unfold maxLen;omega),P⟩
 obtain⟨m,rfl⟩:∃m,n=m+1:=⟨n-1,by omega⟩;go_wp2_with fail;have O0:=zc S;clear S P0 Q0 R0
 go_loopw [9,39] (λo k wr=>∃(j:Nat) (B:List yy),j<=g.edges.length/\k=.int .i64 j/\Hid (B++(uP g v y j (g.edges.drop j)++qZ g v m (y+1))=gF g v t)/\Own sc 2 wr (w.heap.size+1) 64 o B/\Below (w.heap.size+1) (w.alloc (.cells (gC A c U W g) 68)) wr)
  (λ_ k _=>g.edges.length-(intOf k).toNat)
 case atStart=>exact⟨0,H,Nat.zero_le _,rfl,zc (by rw[<-l.out,qZ];rfl),E,I0⟩
 clear E l I0 P N0;obtain⟨j,B,hj,rfl,V,C,J⟩:=hrel;have G:Below w.heap.size w wr:=(Below.refl _ _).alloc (Nat.le_refl _) _ |>.trans (J.mono (by omega))
 have Z:=(zj.new w 68 (gC A c U W g)).below J (by omega);obtain⟨b1,b2,b3⟩:=Z.facts;have f0:w.heap.size+1<=wr.heap.size:=by have:=J.size;simpa using this
 have m0:B.length<=3000:=by
  have h1:=N.out.1;rw[<-V.out,List.length_append]at h1;omega
 by_cases J0:j<g.edges.length
 case neg=>
  go_wp2_with fail;go_roundw
  case rel=>
   refine⟨m,y+1,B,by omega,by go_num,by omega,by omega,zc ?_,C,J⟩;rw[<-V.out,vg (by omega),O0.out];rfl
  case measure=>simp[intOf];omega
 obtain⟨x,hx⟩:=zl J0;have A0:xW g x:=q.edges x (List.mem_of_getElem? hx);obtain⟨be,oe,Y⟩:=hG.edges;obtain⟨rfl,D1,⟨⟨x0,x1,L,X,x2,W0,X0,hL⟩,_⟩⟩:=Y _ x hx;have k0:=x0.now G;have k1:=x1.now G;have k2:=x2.now G;have s:x.legs.length<=maxLen:=Nat.le_trans W0 X0;have hd:=xj hx;have i:Hid (B++(uP g v y j (x::g.edges.drop (j+1))++qZ g v m (y+1))=gF g v t):=by rw[<-hd];exact V
 have C0:zM y:=⟨by omega,by omega⟩;clear Y hx hd V x0 x1 x2;have M:Below w.heap.size w (wr.alloc (Obj.cells #[.int .i64 x.a,.int .i64 x.b,.slice L x.legs.length X] 97)):=ze G _;have O:Below (w.heap.size+1) wr (wr.alloc (Obj.cells #[.int .i64 x.a,.int .i64 x.b,.slice L x.legs.length X] 97)):=(Below.refl _ _).alloc f0 _
 cases I:zF g x y with
 |none=>
  have R:=zc I;have HB:=zc (ZQ (v:=v) I);clear I;go_wp2_with fail;refine(kn _ _ L _ _ X g x y _ (hG.ext M) q A0 (hL.ext yY.stable M) s C0 R.out).mono ?_;rintro e w5 ⟨rfl,D⟩;have F:Below (w.heap.size+1) wr w5:=O.trans (D.mono (by simp;omega));go_wp2_with fail;go_roundw
  case rel=>exact⟨j+1,B,by omega,by go_num,zc (by rw[<-i.out,gG HB.out]),((C.alloc _).ext D).alloc _,(J.trans F).alloc (by have:=F.size;omega) _⟩
  case measure=>simp[intOf];omega
 |some p=>
  obtain⟨Q,to⟩:=p;have R:=zc I
  by_cases T:x.a=v
  case neg=>
   have HB:=zc (bB (g:=g) (d:=y) T);clear I;go_wp2_with fail;refine(qK _ _ L _ _ X g x y Q to _ (hG.ext M) q A0 (hL.ext yY.stable M) s C0 R.out).mono ?_;rintro e w5 ⟨rfl,D⟩;obtain⟨B1,f1,f2,f3⟩:=(zj.new wr 97 #[.int .i64 x.a,.int .i64 x.b,.slice L x.legs.length X]).go D;have F:Below (w.heap.size+1) wr w5:=O.trans (D.mono (by simp;omega));go_wp2_with fail
   go_roundw
   case rel=>exact⟨j+1,B,by omega,by go_num,zc (by rw[<-i.out,gG HB.out]),((C.alloc _).ext D).alloc _,(J.trans F).alloc (by have:=F.size;omega) _⟩
   case measure=>simp[intOf];omega
  have HB:=zc (ZR I T);clear I;have o0:(x.a== v)=true:=by simp[T]
  clear T;go_wp2_with fail;refine(qK _ _ L _ _ X g x y Q to _ (hG.ext M) q A0 (hL.ext yY.stable M) s C0 R.out).mono ?_;rintro e w5 ⟨rfl,D⟩;obtain⟨B1,f1,f2,f3⟩:=(zj.new wr 97 #[.int .i64 x.a,.int .i64 x.b,.slice L x.legs.length X]).go D;have F:Below (w.heap.size+1) wr w5:=O.trans (D.mono (by simp;omega));have u:=((C.alloc (Obj.cells #[.int .i64 x.a,.int .i64 x.b,.slice L x.legs.length X] 97)).ext D).alloc (Obj.cells #[.int .i64 Q.f,.int .i64 Q.t,.int .i64 Q.time,.int .i64 Q.cost] 100)
  have L1:=F.size;have U0:=(J.trans F).alloc (show w.heap.size+1<=w5.heap.size by omega) (Obj.cells #[.int .i64 Q.f,.int .i64 Q.t,.int .i64 Q.time,.int .i64 Q.cost] 100);go_wp2_with (at_builtin;refine vM (enc:=sc) rfl (.tmp 59) (.tmp 63) 62 rfl (w.heap.size+1) 64 i0 _ 2 16 Tryz.underlying62 hi b0 c0 d0 rfl (by decide) _ B ⟨j,y⟩ rfl u _ rfl _ (by simp) rfl rfl PD (by omega) (by decide) (by simp;omega) ?_;intro v' w6 z V0)
  go_roundw
  case rel=>exact⟨j+1,B++[⟨j,y⟩],by omega,by go_num,zc (by rw[<-i.out,dR HB.out];simp),z,U0.trans V0⟩
  case measure=>simp[intOf];omega
theorem lW(A D:Option Addr)(c E:Nat)(g:zf)(v t:Int)(w:World)(H:zv w A c D E g) :
  Calls Tryz.prog 108 #[gV A c D E g,.int .i64 v,.int .i64 t] w (Uz (QL g v t) (zm g v t) w):=by
 by_cases B:zm g v t=0
 ·have C:QL g v t=gF g v t:=by simp[QL,B]
  rw[C,B];exact QM A D c E g v t w H B
 have C:QL g v t=[]:=by simp[QL,B]
 have I:=zc C;have K:=iq B;clear B C
 go_enter Tryz.func108,Tryz.ntmps108
 go_wp2_with fail;refine(vB _ _ _ _ g v t _ (H.ext (by go_grown))).mono ?_;rintro e J ⟨rfl,F⟩;have G:Below w.heap.size w J:=za (by go_grown) F;go_wp2_with fail;go_ret2;rw[I.out];exact⟨none,0,rfl,zU.nil,by simp,G⟩
end Go.Proofs.YtjcimdpldlamfaaGreatDoor
