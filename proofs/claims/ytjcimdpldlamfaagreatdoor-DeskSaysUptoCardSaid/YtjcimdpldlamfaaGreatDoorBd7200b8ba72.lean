import Derived.Test.YtjcimdpldlamfaaGreatDoorBd6c1408187f
namespace Go.Proofs.YtjcimdpldlamfaaGreatDoor
set_option maxRecDepth 100000
set_option maxHeartbeats 8000000
open Go.RowKit Go.Shelf
def Td(a b:List zw)(w:World)(e:Ending)(w':World):Prop:=∃A c out,Hid (ya out/\∀t,zE out t=(zE a t && zE b t))/\e=.returned (.slice A out.length c)/\vW w.heap.size w' A c out/\Below w.heap.size w w'
def qN(x y:zw)(out:List zw):List zw:=if max x.f y.f<min x.t y.t then out++[⟨max x.f y.f,min x.t y.t⟩] else out
theorem XK(A B:Option Addr)(c d:Nat)(a b:List zw)(w:World)(hA:IvlsAt w A c a)(hB:IvlsAt w B d b)(ha:ya a)(hb:ya b)(B1:a.length<=1000)(C1:b.length<=1000) :
  Calls Tryz.prog 193 #[.slice A a.length c,.slice B b.length d] w (Td a b w):=by
 obtain⟨i0,hi,M0,N0,O0⟩:=rj;have HA:=zc hA;have HB:=zc hB;have g:=zc ha;have k:=zc hb;clear hA hB ha hb
 go_enter Tryz.func193,Tryz.ntmps193
 go_wp2_with fail
 go_loopw [5,6,7] (λu v v' wr=>∃(i j:Nat) (out:List zw),v=.int .i64 i/\v'=.int .i64 j/\i<=a.length/\j<=b.length/\Hid (uG a b i j out/\out.length<=i+j/\∀x,x∈out->zM x.f/\zM x.t)/\Own xH 2 wr w.heap.size 94 u out/\Below w.heap.size w wr) (λ_ v v' _=>a.length+b.length-(intOf v).toNat-(intOf v').toNat)
 case atStart=>exact⟨0,0,[],rfl,rfl,AA _,AA _,zc ⟨uG.start,Ay _,λx h=>by simp at h⟩,Own.nil,Ae _ _⟩
 obtain⟨i,j,out,rfl,rfl,w0,A1,R,hO,H⟩:=hrel;have E1:=H.size;obtain⟨Z,l,rfl⟩:=hO.form;have D1:=R.out.2.1
 by_cases O:i<a.length/\j<b.length
 case neg=>
  have P:Hid (ya out/\∀t,zE out t=(zE a t && zE b t)):=zc (R.out.1.fin (by omega));obtain⟨Ax,cx,ex,m⟩:=pc hO R.out.2.2;have ex:Z=Ax/\l=cx:=by simpa using ex
  obtain⟨rfl,rfl⟩:=ex
  by_cases Y:i<a.length
  ·have h2:¬j<b.length:=λh=>O ⟨Y,h⟩
   have d1:decide (i<a.length)=true:=by simpa using Y
   have d2:decide (j<b.length)=false:=by simpa using h2
   clear O;go_wp2_with fail;go_ret;exact⟨Z,l,out,P,rfl,m,H⟩
  have d1:decide (i<a.length)=false:=by simpa using Y
  clear O;go_wp2_with fail;go_ret;exact⟨Z,l,out,P,rfl,m,H⟩
 obtain⟨Y,h2⟩:=O;obtain⟨x,hx⟩:=zl Y;obtain⟨y,hy⟩:=zl h2;obtain⟨ba,oa,rfl,S,x0,W⟩:=HA.out.get hx;obtain⟨bb,ob,rfl,L,y0,X⟩:=HB.out.get hy;have WX:=zc W;have WY:=zc X;rw[<-H.cell (by exact S)]at x0 W;rw[<-H.cell (by exact L)]at y0 X;have xi:=HA.out.i64 hx;have yi:=HB.out.i64 hy;have HX:=zc hx;have HY:=zc hy;have HI:Hid (zM (max x.f y.f)/\zM (min x.t y.t)):=zc (by
  obtain⟨p1,p2⟩:=xi;obtain⟨q1,q2⟩:=yi;unfold zM at p1 p2 q1 q2⊢;omega)
 have d1:decide (i<a.length)=true:=by simpa using Y
 have d2:decide (j<b.length)=true:=by simpa using h2
 have k0:=zD (ze (Ae _ wr) (Obj.cells #[Value.int IntKind.i64 0,Value.int IntKind.i64 0] 94)) x0;have k1:=zD (ze (Ae _ wr) (Obj.cells #[Value.int IntKind.i64 0,Value.int IntKind.i64 0] 94)) W;have k2:=zD (ze (Ae _ wr) (Obj.cells #[Value.int IntKind.i64 0,Value.int IntKind.i64 0] 94)) y0;have k3:=zD (ze (Ae _ wr) (Obj.cells #[Value.int IntKind.i64 0,Value.int IntKind.i64 0] 94)) X
 clear hx hy xi yi;obtain⟨C,T⟩:∃o,o=qN x y out:=⟨_,rfl⟩;have K:=zc T;have r:C.length<=out.length+1:=by rw[T];unfold qN;split <;> simp
 clear T;have Hi:Hid (∀z,z∈C->zM z.f/\zM z.t):=zc (by
  rw[K.out];unfold qN
  split
  ·intro z s
   rcases AK.1 s with s|s
   ·exact R.out.2.2 z s
   obtain rfl:z=_:=by simpa using s
   exact HI.out
  exact R.out.2.2)
 have M:Hid (x.t<=y.t->uG a b (i+1) j C/\C.length<=i+1+j):=zc λh=>⟨R.out.1.stepA g.out k.out HX.out HY.out h K.out,by omega⟩;have N:Hid (y.t<=x.t->uG a b i (j+1) C/\C.length<=i+(j+1)):=zc λh=>⟨R.out.1.stepB g.out k.out HX.out HY.out h K.out,by omega⟩;clear r
 by_cases I:max x.f y.f<min x.t y.t
 case pos=>
  have d3:decide (max x.f y.f<min x.t y.t)=true:=by simpa using I
  have e:Hid (C=out++[⟨max x.f y.f,min x.t y.t⟩]):=zc (by rw[K.out];unfold qN;rw[Aq I]);clear I;go_wp2_with fail
  go_region
  clear k0 k1 k2 k3 x0 W y0 X;obtain⟨V,G⟩:∃V,V=(wr.alloc (Obj.cells #[Value.int IntKind.i64 (max x.f y.f),Value.int IntKind.i64 (min x.t y.t)] 94)).drew:=⟨_,rfl⟩;have n:Below w.heap.size w V:=by rw[G];exact zi (ze H _)
  have U:Own xH 2 V w.heap.size 94 (.slice Z out.length l) out:=by rw[G];exact(hO.alloc _).drew
  have z0:V.cell? ⟨wr.heap.size,0,none⟩=some (.int .i64 (max x.f y.f)):=by rw[G];exact(zj.new wr 94 #[.int .i64 (max x.f y.f),.int .i64 (min x.t y.t)]).cell 0
  have z1:V.cell? ⟨wr.heap.size,1,none⟩=some (.int .i64 (min x.t y.t)):=by rw[G];exact(zj.new wr 94 #[.int .i64 (max x.f y.f),.int .i64 (min x.t y.t)]).cell 1
  rw[<-G];clear G;have G:=n.size;have J0:out.length+1<=1000000:=by omega
  go_wp2_with (at_builtin;refine zr (enc:=xH) rfl (.tmp 47) (.tmp 49) 65 rfl w.heap.size 94 i0 _ 2 16 Tryz.underlying65 hi M0 N0 O0 rfl (by decide) _ out ⟨max x.f y.f,min x.t y.t⟩ rfl U #[.int .i64 (max x.f y.f),.int .i64 (min x.t y.t)] rfl V.heap.size rfl rfl rfl pN J0 (by decide) G ?_;intro gn r0 Q D q L0 K0;have E:Below w.heap.size w Q:=n.trans q;clear q L0 K0 z0 z1;have W:=(E.cell (p:=⟨ba,oa+i*2+1,none⟩) S).trans WX.out;have X:=(E.cell (p:=⟨bb,ob+j*2+1,none⟩) L).trans WY.out)
  by_cases F:x.t<y.t
  case pos=>
   have d4:decide (x.t<y.t)=true:=by simpa using F
   go_wp2_with fail
   go_quiet (fail)
   go_wp2_with fail;go_roundw
   case rel=>exact⟨i+1,j,C,by go_num,rfl,by omega,by omega,zc ⟨(M.out (by omega)).1,(M.out (by omega)).2,Hi.out⟩,by rw[e.out];exact D.drewN _,zo E _⟩
   case measure=>simp[intOf];omega
  have d4:decide (x.t<y.t)=false:=by simpa using F
  go_wp2_with fail
  go_quiet (fail)
  go_wp2_with fail;go_roundw
  case rel=>exact⟨i,j+1,C,rfl,by go_num,by omega,by omega,zc ⟨(N.out (by omega)).1,(N.out (by omega)).2,Hi.out⟩,by rw[e.out];exact D.drewN _,zo E _⟩
  case measure=>simp[intOf];omega
 have d3:decide (max x.f y.f<min x.t y.t)=false:=by simpa using I
 have e:Hid (C=out):=zc (by rw[K.out];unfold qN;rw[Au I]);clear I;go_wp2_with fail
 go_region
 clear k0 k1 k2 k3 x0 W y0 X;obtain⟨Q,J⟩:∃Q,Q=(wr.alloc (Obj.cells #[Value.int IntKind.i64 (max x.f y.f),Value.int IntKind.i64 (min x.t y.t)] 94)).drew:=⟨_,rfl⟩;have E:Below w.heap.size w Q:=by rw[J];exact zi (ze H _)
 have D:Own xH 2 Q w.heap.size 94 (.slice Z out.length l) out:=by rw[J];exact(hO.alloc _).drew
 have z0:Q.cell? ⟨wr.heap.size,0,none⟩=some (.int .i64 (max x.f y.f)):=by rw[J];exact(zj.new wr 94 #[.int .i64 (max x.f y.f),.int .i64 (min x.t y.t)]).cell 0
 have z1:Q.cell? ⟨wr.heap.size,1,none⟩=some (.int .i64 (min x.t y.t)):=by rw[J];exact(zj.new wr 94 #[.int .i64 (max x.f y.f),.int .i64 (min x.t y.t)]).cell 1
 have W:=(E.cell (p:=⟨ba,oa+i*2+1,none⟩) S).trans WX.out;have X:=(E.cell (p:=⟨bb,ob+j*2+1,none⟩) L).trans WY.out;rw[<-J];clear J
 by_cases F:x.t<y.t
 case pos=>
  have d4:decide (x.t<y.t)=true:=by simpa using F
  go_wp2_with fail
  go_quiet (fail)
  go_wp2_with fail;go_roundw
  case rel=>exact⟨i+1,j,C,by go_num,rfl,by omega,by omega,zc ⟨(M.out (by omega)).1,(M.out (by omega)).2,Hi.out⟩,by rw[e.out];exact D.drewN _,zo E _⟩
  case measure=>simp[intOf];omega
 have d4:decide (x.t<y.t)=false:=by simpa using F
 go_wp2_with fail
 go_quiet (fail)
 go_wp2_with fail;go_roundw
 case rel=>exact⟨i,j+1,C,rfl,by go_num,by omega,by omega,zc ⟨(N.out (by omega)).1,(N.out (by omega)).2,Hi.out⟩,by rw[e.out];exact D.drewN _,zo E _⟩
 case measure=>simp[intOf];omega
