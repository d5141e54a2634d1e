import Derived.Test.YtjcimdpldlamfaaGreatDoorAl
import Derived.HandedShaped
import Derived.Lay
import Derived.LaidMore
import Derived.Stop.LaidErr
import Derived.Test.YtjcimdpldlamfaaGreatDoorCards
import Derived.Test.YtjcimdpldlamfaaGreatDoorTie
import Derived.Test.YtjcimdpldlamfaaGreatDoorBdeea8b97884
namespace Go.Proofs.YtjcimdpldlamfaaGreatDoor
set_option maxRecDepth 100000
set_option maxHeartbeats 2000000
open Go.RowKit
def jv(g:zf)(t:Int)(w:World)(e:Ending)(w':World):Prop:=∃A c A' c',e=.returned (sx A c A' c' (xR g t))/\rx w.heap.size w' A c A' c' (xR g t)/\Below w.heap.size w w'
theorem iH(A o:Option Addr)(c p:Nat)(g:zf)(t:Int)(w:World)(hG:zv w A c o p g)(hV:zx g) :
  Calls Tryz.prog 83 #[gV A c o p g,.int .i64 t] w (jv g t w):=by
 have m1:g.lives.length<=9223372036854775807:=Ai hG.lc hG.cm;have m2:g.edges.length<=9223372036854775807:=Ai hG.lc' hG.cm';have L3:=hV.h0;have M3:=hV.h1;have X2:=hV.nl;have d0:=hV.ne;obtain⟨i0,hi,D2,E2,F2⟩:=dj;obtain⟨j0,o1,A2,B2,C2⟩:=av
 go_enter Tryz.func83,Tryz.ntmps83
 go_wp2_with fail;have M:=zj.new ((w.alloc (Obj.cells #[.int .i64 g.h,.slice A g.lives.length c,.slice o g.edges.length p] 68)).alloc (Obj.cells #[.slice none 0 0,.slice none 0 0] 86)) 86 #[.slice none 0 0,.slice none 0 0];have O:=(zj.new (w.alloc (Obj.cells #[.int .i64 g.h,.slice A g.lives.length c,.slice o g.edges.length p] 68)) 86 #[.slice none 0 0,.slice none 0 0]).alloc (Obj.cells #[.slice none 0 0,.slice none 0 0] 86)
 have J:=((zj.new w 68 #[.int .i64 g.h,.slice A g.lives.length c,.slice o g.edges.length p]).alloc (Obj.cells #[.slice none 0 0,.slice none 0 0] 86)).alloc (Obj.cells #[.slice none 0 0,.slice none 0 0] 86);have C:=ze (ze (ze (Ae w.heap.size w) (Obj.cells #[.int .i64 g.h,.slice A g.lives.length c,.slice o g.edges.length p] 68)) (Obj.cells #[.slice none 0 0,.slice none 0 0] 86)) (Obj.cells #[.slice none 0 0,.slice none 0 0] 86)
 have U:w.heap.size+2+1<=(((w.alloc (Obj.cells #[.int .i64 g.h,.slice A g.lives.length c,.slice o g.edges.length p] 68)).alloc (Obj.cells #[.slice none 0 0,.slice none 0 0] 86)).alloc (Obj.cells #[.slice none 0 0,.slice none 0 0] 86)).heap.size:=by simp
 have w1:w.heap.size+1<w.heap.size+2:=by omega
 simp only[World.size_alloc,Nat.add_assoc,Nat.reduceAdd]at M O U⊢;obtain⟨T,c0⟩:∃T,T=w.heap.size+2:=⟨_,rfl⟩;obtain⟨w3,g0⟩:∃w3:World,w3=((w.alloc (Obj.cells #[.int .i64 g.h,.slice A g.lives.length c,.slice o g.edges.length p] 68)).alloc (Obj.cells #[.slice none 0 0,.slice none 0 0] 86)).alloc (Obj.cells #[.slice none 0 0,.slice none 0 0] 86):=⟨_,rfl⟩;have U:T+1<=w3.heap.size:=by rw[g0,c0];simp
 rw[<-g0]at M O J C⊢;rw[<-c0]at M w1⊢;clear c0 g0
 go_loopw [6] (λx wr=>∃(k:Nat) (vb:Value) (bl:List Bool),k<=g.lives.length/\x=.int .i64 k/\Hid (bl=(wn g t).take k)/\bl.length<=k/\Own rC 1 wr (T+1) 4 vb bl/\zj wr T 86 #[vb,.slice none 0 0] /\
  zj wr (w.heap.size+1) 86 #[.slice none 0 0,.slice none 0 0]/\zj wr w.heap.size 68 (gC A c o p g)/\Below w.heap.size w wr/\T+1<=wr.heap.size) (λx _=>g.lives.length-(intOf x).toNat)
 case atStart=>exact⟨0,_,[],AA _,rfl,zc (by simp),by simp,Own.nil,M,O,J,C,U⟩
 clear M O J C U;obtain⟨k,vb,bl,hk,rfl,HB,J3,B,M,O,J,C,U⟩:=hrel;obtain⟨f1,f2,f3⟩:=M.facts;obtain⟨c1,c2,c3⟩:=J.facts
 by_cases u1:k<g.lives.length
 case pos=>
   have R1:=zc u1;obtain⟨Ab,cb,rfl⟩:=B.form;go_wp2_with fail;obtain⟨S,V⟩:∃S:World->Prop,Hid (S=λw'=>w'.cell? ⟨T,0,none⟩=some (.slice Ab bl.length cb)/\w'.cell? ⟨w.heap.size,0,none⟩=some (.int .i64 g.h)/\w'.cell? ⟨w.heap.size,1,none⟩=some (.slice A g.lives.length c)/\w'.cell? ⟨w.heap.size,2,none⟩=some (.slice o g.edges.length p)):=⟨_,zc rfl⟩;have W0:∀wz,Below wr.heap.size wr wz->S wz:=λwz hb=>by
    rw[V.out];exact⟨zD hb (by rw[M.cell];rfl),zD hb (by rw[J.cell];rfl),zD hb (by rw[J.cell];rfl),zD hb (by rw[J.cell];rfl)⟩
   have H3:S wr.drew:=W0 _ (zi (Ae _ _));have n0:=zc W0;clear W0;refine zV.begin (S:=S) 9 (by kernel_rfl) ?_;refine tN 0 ?_ ?_ ?_;rotate_left
   ·intro w I;rw[V.out]at I;obtain⟨A0,C0,D0,E0⟩:=I;go_simp;try with_reducible rfl
   simp only[pS];refine tN 1 ?_ ?_ ?_;rotate_left
   ·intro w I;rw[V.out]at I;obtain⟨A0,C0,D0,E0⟩:=I;go_simp;try with_reducible rfl
   simp only[pS];refine tN 2 ?_ ?_ ?_;rotate_left
   ·intro w I;rw[V.out]at I;obtain⟨A0,C0,D0,E0⟩:=I;go_simp;try with_reducible rfl
   simp only[pS];refine tN 3 ?_ ?_ ?_;rotate_left
   ·intro w I;rw[V.out]at I;obtain⟨A0,C0,D0,E0⟩:=I;go_simp;try with_reducible rfl
   simp only[pS];refine tN 4 ?_ ?_ ?_;rotate_left
   ·intro w I;rw[V.out]at I;obtain⟨A0,C0,D0,E0⟩:=I;go_simp;try with_reducible rfl
   simp only[pS];refine zV.one (i:=5) rfl (by kernel_rfl) λK r=>?_;go_wp2_with fail;refine(ye A o c p g k t _ (hG.ext (za C (by go_grown))) (by omega) (by omega)).mono ?_;rintro e w5 ⟨rfl,F⟩;have D:Below wr.heap.size wr w5:=za (by go_grown) F;go_wp2_with fail;have Y1:S w5:=n0.out _ D;refine r.out _ _ ⟨λ_=>Y1,?_⟩;clear r K
   try simp only[pS]
   refine zV.one (i:=6) rfl (by kernel_rfl) λK r=>?_;go_wp2_with fail;have H:Below wr.heap.size wr (w5.alloc (Obj.cells #[.bool (zn g k t)] 4)):=ze D _;have Z1:=n0.out _ H;refine r.out _ _ ⟨λ_=>Z1,?_⟩;clear r K
   try simp only[pS]
   refine zV.one (i:=7) rfl (by kernel_rfl) λK r=>?_;have Q:=B.ext D;have z0:T+1<=w5.heap.size:=Ai U D.size;refine yR (enc:=rC) (.tmp 19) (.tmp 24) 83 rfl (T+1) 4 i0 _ 1 1 Tryz.underlying83 hi D2 E2 F2 rfl (by decide) _ bl (zn g k t) rfl Q _ rfl w5.heap.size rfl rfl rfl XI (by omega) (by decide) z0 ?_;intro gn U1 w6 R r0 X K3;have P:=X _ _ _ (zj.go M D).1 (Q.other (zj.go M D).1 (by decide))
   have d:=X _ _ _ (zj.go J D).1 (Q.other (zj.go J D).1 (by decide));have R0:=X _ _ _ (zj.go O D).1 (Q.other (zj.go O D).1 (by decide));have g1:S w6:=by rw[V.out];exact⟨by rw[P.cell];rfl,by rw[d.cell];rfl,by rw[d.cell];rfl,by rw[d.cell];rfl⟩
   refine r.out _ _ ⟨λ_=>g1,?_⟩;clear r K
   try simp only[pS]
   refine tN 8 ?_ ?_ ?_;rotate_left
   ·intro w I;rw[V.out]at I;obtain⟨A0,C0,D0,E0⟩:=I;go_simp;try with_reducible rfl
   simp only[pS];refine zV.one (i:=9) rfl (by kernel_rfl) λK r=>?_;obtain⟨r1,r2,r3⟩:=P.facts;go_wp2_with fail;refine r.out _ _ ⟨λh=>by omega,?_⟩;clear r K;refine zV.done (by kernel_rfl) ?_ _;have HN:Hid (bl++[zn g k t]=(wn g t).take (k+1)):=zc (by rw[cD R1.out,HB.out]);have t0:Below w.heap.size w w6:=(za C D).trans (r0.mono (by omega));have H2:T+1<=w6.heap.size:=Ai z0 r0.size
   go_wp2_with fail;go_roundw
   case rel=>
    refine⟨k+1,_,bl++[zn g k t],by omega,by go_num,HN,by simp;omega,R.keep (zG P (by decide) 0 _),by simpa using P.set_ 0 (.slice (some ⟨gn,0,none⟩) (bl.length+1) U1),R0.far (by simp;omega) _,d.far (by simp;omega) _,t0.setCell (by simp;omega) _,by simpa using H2⟩
   case measure=>simp[intOf];omega
 have HL:Hid (bl=wn g t):=zc (by rw[HB.out,aT (by omega)]);obtain rfl:=HL.out;obtain⟨Ab,cb,rfl⟩:=B.form;have t1:(wn g t).length<=12:=by rw[wu];omega
 have w0:∀v:Int,v<g.lives.length->v<((wn g t).length:Int):=λv h=>by rw[wu];exact h
 have o0:=zc w0;clear w0 HB;go_wp2_with fail
 go_loopw [7] (λx wr=>∃(j:Nat) (va:Value) (Z:List xz),j<=g.edges.length/\x=.int .i64 j/\Hid (Z=wX g t (g.edges.take j))/\Z.length<=j/\Own rC 1 wr (T+1) 4 (.slice Ab (wn g t).length cb) (wn g t)/\Own mH 3 wr (T+1) 134 va Z /\
  zj wr T 86 #[.slice Ab (wn g t).length cb,va] /\
  zj wr (w.heap.size+1) 86 #[.slice none 0 0,.slice none 0 0]/\zj wr w.heap.size 68 (gC A c o p g)/\Below w.heap.size w wr/\T+1<=wr.heap.size) (λx _=>g.edges.length-(intOf x).toNat)
 case atStart=>exact⟨0,_,[],AA _,rfl,zc (by simp[wX]),by simp,B,Own.nil,M,O,J,C,U⟩
 clear B M O J C U f1 f2 f3 c1 c2 c3;obtain⟨j,va,Z,hj,rfl,HA,j1,B,E,M,O,J,C,U⟩:=hrel;obtain⟨f1,f2,f3⟩:=M.facts;obtain⟨c1,c2,c3⟩:=J.facts;obtain⟨Aa,ca,rfl⟩:=E.form
 by_cases v0:j<g.edges.length
 case neg=>
  have Q1:Hid (Z=wX g t g.edges):=zc (by rw[HA.out,AJ (by omega)]);clear HA;obtain rfl:=Q1.out;obtain⟨s1,s2,s3⟩:=O.facts;have HV:=zc hV;clear j1 t1 hV;go_wp2_with fail;have K:∀(t':TypeId) b cs,t'≠86->zj wr b t' cs->zj ((wr.setCell ⟨w.heap.size+1,0,none⟩ (.slice Ab (wn g t).length cb)).setCell ⟨w.heap.size+1,1,none⟩ (.slice Aa (wX g t g.edges).length ca)) b t' cs:=λt' b cs ht h=>by
   have d0:=wv h O ht;exact(h.far d0 _).far d0 _
  unfold jv;refine AP (v:=sx Ab cb Aa ca (xR g t)) (by simp[results,Tryz.results83,go_sem,s1,xR]) rfl ?_;exact⟨Ab,cb,Aa,ca,rfl,Wr HV.out ((B.keep (λb cs h=>K _ b cs (by decide) h)).since (by omega)) ((E.keep (λb cs h=>K _ b cs (by decide) h)).since (by omega)),(C.setCell (by simp) _).setCell (by simp) _⟩
 obtain⟨be,oe,hE⟩:=hG.edges;obtain⟨y,hy⟩:=zl v0;obtain⟨rfl,I3,⟨⟨x0,x1,L,cl,x2,Q3,R3,hL⟩,_⟩⟩:=hE j y hy;have y0:=x0.now C;have y1:=x1.now C;have y2:=x2.now C;have z:=hV.edges y (Ad hy);have L0:=z.a0;have s:=z.a1;have Z0:=z.b0;have M0:=z.b1;have S3:=z.six;have l:=zc (eB g t hy);have u0:y.legs.length<=maxLen:=by unfold maxLen;omega
 clear hE hy x0 x1 x2
 cases hq:yC t y.legs with
 |none=>
  have HQ:=zc hq;have HN:Hid (Z=wX g t (g.edges.take (j+1))):=zc (by rw[l.out,YC hq,AR,HA.out]);clear hq l;go_wp2_with fail;refine(nX L cl y t _ (hL.ext yY.stable (za C (by go_grown))) u0).mono ?_;rw[HQ.out];simp only[aC];rintro e N ⟨rfl,m⟩;have G:Below wr.heap.size wr N:=za (by go_grown) m;obtain⟨M,d1,d2,d3⟩:=M.go G;obtain⟨J,e1,e2,e3⟩:=J.go G
  obtain⟨BY,i1,i2,i3⟩:=(zj.new wr 97 #[.int .i64 y.a,.int .i64 y.b,.slice L y.legs.length cl]).go m;clear f1 f2 f3 c1 c2 c3 y0 y1 y2;go_wp2_with fail;go_roundw
  case rel=>exact⟨j+1,_,Z,by omega,by go_num,HN,by omega,(B.ext G).alloc _,(E.ext G).alloc _,M.alloc _,(O.go G).1.alloc _,J.alloc _,ze (za C G) _,Ai U (Ai G.size (by simp))⟩
  case measure=>simp[intOf];omega
 |some lg=>
  have HQ:=zc hq;obtain⟨Am,dm,f0,bm,om,X0⟩:=lY B;injection f0 with f0;subst f0;obtain⟨rfl,n1,p0⟩:=X0 _ _ (lj (t:=t) L0 s);obtain⟨_,_,p1⟩:=X0 _ _ (lj (t:=t) Z0 M0);unfold oH at p0 p1;have O3:=o0.out _ s;have P3:=o0.out _ M0;have H0:Hid (zn g y.a t=false->Z=wX g t (g.edges.take (j+1))):=zc (λh=>by rw[l.out,UD h,AR,HA.out]);have I0:Hid (zn g y.b t=false->Z=wX g t (g.edges.take (j+1))):=zc (λh=>by rw[l.out,UE h,AR,HA.out])
  have K0:Hid (zn g y.a t=true->zn g y.b t=true->Z++[⟨y.a,y.b,lg.cost⟩]=wX g t (g.edges.take (j+1))):=zc (λh h'=>by rw[l.out,iW hq h h',HA.out]);clear hq l HA X0;go_wp2_with fail;refine(nX L cl y t _ (hL.ext yY.stable (za C (by go_grown))) u0).mono ?_;rw[HQ.out];simp only[aC];rintro e N ⟨rfl,m⟩;have G:Below wr.heap.size wr N:=za (by go_grown) m
  obtain⟨M,d1,d2,d3⟩:=M.go G;obtain⟨J,e1,e2,e3⟩:=J.go G;obtain⟨BY,i1,i2,i3⟩:=(zj.new wr 97 #[.int .i64 y.a,.int .i64 y.b,.slice L y.legs.length cl]).go m;have q0:=p0.now G;have q1:=p1.now G;simp only[Nat.mul_one]at q0 q1;have W2:bm<N.heap.size:=AV n1 G.size;have B:=B.ext G;have E:=E.ext G;have O:=(O.go G).1;have C:=za C G;have U:T+1<=N.heap.size:=Ai U G.size
  clear f1 f2 f3 c1 c2 c3 y0 y1 y2 p0 p1 m G;have u:=hG.ext C
  cases Y:zn g y.a t with
  |false=>
   have HN:=zc (H0.out Y);have q:=zc Y;clear H0 I0 K0 Y;go_wp2_with fail;refine(ye _ _ _ _ g y.a t _ (u.ext (by go_grown)) L0 s).mono ?_;rw[q.out];rintro e w4 ⟨rfl,W⟩;have F:Below N.heap.size N w4:=za (by go_grown) W;go_wp2_with fail;go_roundw
   case rel=>exact⟨j+1,_,Z,by omega,by go_num,HN,by omega,B.ext F,E.ext F,(M.go F).1,(O.go F).1,(J.go F).1,za C F,Ai U F.size⟩
   case measure=>simp[intOf];omega
  |true=>
   cases n:zn g y.b t with
   |false=>
    have HN:=zc (I0.out n);have q:=zc Y;have T0:=zc n;clear H0 I0 K0 Y n;go_wp2_with fail;refine(ye _ _ _ _ g y.a t _ (u.ext (by go_grown)) L0 s).mono ?_;rw[q.out];rintro e w4 ⟨rfl,W⟩;have F:Below N.heap.size N w4:=za (by go_grown) W;obtain⟨Q0,k1,k2,k3⟩:=J.go F;obtain⟨m0,k4,k5,k6⟩:=BY.go F;clear e1 e2 e3 i1 i2 i3;go_wp2_with fail;refine(ye _ _ _ _ g y.b t _ (u.ext (by first|exact F|go_grown)) Z0 M0).mono ?_
    rw[T0.out];rintro e w6 ⟨rfl,D⟩;have H:Below N.heap.size N w6:=za F (za (by go_grown) D);go_wp2_with fail;go_roundw
    case rel=>exact⟨j+1,_,Z,by omega,by go_num,HN,by omega,B.ext H,E.ext H,(M.go H).1,(O.go H).1,(J.go H).1,za C H,Ai U H.size⟩
    case measure=>simp[intOf];omega
   |true=>
    have HN:=zc (K0.out Y n);have q:=zc Y;have T0:=zc n;clear H0 I0 K0 Y n;go_wp2_with fail;refine(ye _ _ _ _ g y.a t _ (u.ext (by go_grown)) L0 s).mono ?_;rw[q.out];rintro e w4 ⟨rfl,W⟩;have F:Below N.heap.size N w4:=za (by go_grown) W;obtain⟨Q0,k1,k2,k3⟩:=J.go F;obtain⟨m0,k4,k5,k6⟩:=BY.go F;clear e1 e2 e3 i1 i2 i3;go_wp2_with fail;refine(ye _ _ _ _ g y.b t _ (u.ext (by first|exact F|go_grown)) Z0 M0).mono ?_
    rw[T0.out];rintro e w5 ⟨rfl,D⟩;have H:Below N.heap.size N w5:=za F (za (by go_grown) D);have l1:=za (show Below N.heap.size N (N.alloc _) from ze (Ae _ _) (Obj.cells #[.int .i64 lg.f,.int .i64 lg.t,.int .i64 lg.time,.int .i64 lg.cost] 100)) (show Below _ (N.alloc (Obj.cells #[.int .i64 lg.f,.int .i64 lg.t,.int .i64 lg.time,.int .i64 lg.cost] 100)) w5 from za (by first|exact W|go_grown) D)
    obtain⟨BL,v1,v2,v3⟩:=(zj.new N 100 #[.int .i64 lg.f,.int .i64 lg.t,.int .i64 lg.time,.int .i64 lg.cost]).go (show Below _ (N.alloc (Obj.cells #[.int .i64 lg.f,.int .i64 lg.t,.int .i64 lg.time,.int .i64 lg.cost] 100)) w5 from za (by first|exact W|go_grown) D);obtain⟨Q0,k1,k2,k3⟩:=J.go H;obtain⟨m0,k4,k5,k6⟩:=BY.go H;obtain⟨O1,z1,z2,z3⟩:=M.go H;have B:=B.ext H
    have E:=E.ext H;have O:=(O.go H).1;have C:=za C H;have U:T+1<=w5.heap.size:=Ai U H.size;clear J M BY d1 d2 d3 W F D H l1 q0 q1;go_wp2_with (at_builtin;refine yf (enc:=mH) rfl (.tmp 61) (.tmp 69) 84 rfl (T+1) 134 j0 _ 3 24 Tryz.underlying84 o1 A2 B2 C2 rfl (by decide) _ Z [⟨y.a,y.b,lg.cost⟩] 1 rfl rfl E _ rfl w5.heap.size (by simp) rfl rfl UF (by omega) (by decide) U ?_;intro v' w6 R D X;obtain⟨Aw,dw,rfl⟩:=R.form;have P:=X _ _ _ O1 (by decide);obtain⟨r1,r2,r3⟩:=P.facts)
    have R0:=X _ _ _ O (by decide);have d:=X _ _ _ Q0 (by decide);have e0:=B.keep (λb cs h=>X _ _ _ h (by decide));have s0:Below w.heap.size w w6:=C.trans (D.mono (by omega));have G2:T+1<=w6.heap.size:=Ai U D.size;go_roundw
    case rel=>
     refine⟨j+1,_,Z++[(⟨y.a,y.b,lg.cost⟩:xz)],by omega,by go_num,HN,by simp;omega,e0.keep (zG P (by decide) 1 _),R.keep (zG P (by decide) 1 _),by simpa using P.set_ 1 (.slice Aw (Z++[(⟨y.a,y.b,lg.cost⟩:xz)]).length dw),R0.far (by simp;omega) _,d.far (by simp;omega) _,s0.setCell (by simp;omega) _,by simpa using G2⟩
    case measure=>simp[intOf];omega
open Go.ChangeShapes Go.WideShapes Go.ChangeAt Go.RowKit
variable {H:Type}{enc:TypeId×Value->H}
theorem maxLen_of{W:World}(h:W.ShapedOpen Tryz.prog):mE W:=
 cell_of_shapedOpen_int (k:=.i64) (t:=3) (zero:=#[.int .i64 0]) h (of_decide_eq_true (by kernel_rfl)) (by kernel_rfl) rfl (by kernel_rfl) (by kernel_rfl) Tryz.underlying3
theorem QY:(Tryz.prog.globals[3]?).map (·.type)=some 206:=by kernel_rfl
theorem Ut : Tryz.prog.globalNamed "internal/strconv.uint64pow10" = some 3 := by kernel_rfl
theorem tab_of{rest : List (String × DataW Unit)}{w : World}(h : laidMet Tryz.prog (("internal/strconv.uint64pow10", Rows.laid_internal_strconv_uint64pow10) :: rest) w) : ITab w :=
 Lib.tabIs_of_head Ut QY Tryz.underlying206 Tryz.underlying176 (by kernel_rfl) (by kernel_rfl) (by
  have e:(Rows.laid_internal_strconv_uint64pow10:DataW Unit)=Lib.tabData .u64 Lib.pow10Tab:=by kernel_rfl
  rw[<-e];exact h)
